/- made by a program (rowgen.py): MerkleParts: for every input the law returns true, and each argument reads behind the call as it read before. -/
import Derived.Test.YtkknpeeccejppaaDoorKMsb

namespace Go.Proofs.YtkknpeeccejppaaDoor
open Go.RowKit
def ivA (c : TC) (l : List (U c)) (k : Nat) : A := match innE c (l.getD k (dflt c)) with
 | some ⟨c', l'⟩ => .sl c' l'
 | none => .dead
mutual
def fzA (i : Nat) (dp : Bool) (c : TC) (l : List (U c)) : A → A
 | .sq j => bif Nat.beq j i then (bif dp then .dead else .sl c l) else .sq j
 | .vw j sz lo n f => bif Nat.beq j i then (bif dp then .dead else bif Nat.beq sz (size c) then .sl c ((l.drop lo).take n) else .dead) else .vw j sz lo n f
 | .dq j => bif Nat.beq j i then (bif dp then .sl c l else .dead) else .dq j
 | .iv j k => bif Nat.beq j i then (bif dp then ivA c l k else .dead) else .iv j k
 | .de j k sz off => bif Nat.beq j i then .dead else .de j k sz off
 | .ie j k m sz off => bif Nat.beq j i then .dead else .ie j k m sz off
 | .el j k sz off => bif Nat.beq j i then .dead else .el j k sz off
 | .fn f xs ys => .fn f (fzL i dp c l xs) (fzL i dp c l ys)
 | .agg xs => .agg (fzL i dp c l xs)
 | .tup xs => .tup (fzL i dp c l xs)
 | .ref xs => .ref (fzL i dp c l xs)
 | .opt u b x => .opt u b (fzA i dp c l x)
 | .v x => .v x
 | .sl c' l' => .sl c' l'
 | .own j o => .own j o
 | .ownx j b n k => .ownx j b n k
 | .mp j => .mp j
 | .nl => .nl
 | .it q vs => .it q vs
 | .dead => .dead
 | .av c' n l' => .av c' n l'
 | .rv xs => .rv (fzL i dp c l xs)
 | .vr j b lo m => .vr j b lo m
def fzL (i : Nat) (dp : Bool) (c : TC) (l : List (U c)) : List A → List A
 | [] => []
 | x :: r => fzA i dp c l x :: fzL i dp c l r
end
mutual
def inA (i n : Nat) : A → List Prop
 | .vw j _ lo m _ => bif Nat.beq j i then [lo + m ≤ n] else []
 | .iv j k => bif Nat.beq j i then [k < n] else []
 | .fn _ xs ys => inL i n xs ++ inL i n ys
 | .agg xs => inL i n xs
 | .tup xs => inL i n xs
 | .ref xs => inL i n xs
 | .rv xs => inL i n xs
 | .opt _ _ x => inA i n x
 | _ => []
def inL (i n : Nat) : List A → List Prop
 | [] => []
 | x :: r => inA i n x ++ inL i n r
end
theorem fzL_get {i : Nat} {dp : Bool} {c : TC} {l : List (U c)} : ∀ {xs : List A} {j : Nat} {x : A}, (fzL i dp c l xs)[j]? = some x → ∃ y, xs[j]? = some y ∧ x = fzA i dp c l y
 | [], j, x, h => by unfold fzL at h; cases j <;> cases h
 | y :: r, 0, x, h => by unfold fzL at h; cases h; exact ⟨y, rfl, rfl⟩
 | y :: r, j + 1, x, h => by unfold fzL at h; exact fzL_get (xs := r) h
theorem fzL_length {i : Nat} {dp : Bool} {c : TC} {l : List (U c)} : ∀ xs : List A, (fzL i dp c l xs).length = xs.length
 | [] => by unfold fzL; rfl
 | y :: r => by unfold fzL; rw [List.length_cons, List.length_cons, fzL_length r]
theorem inL_get {i n : Nat} : ∀ {xs : List A} {j : Nat} {x : A}, xs[j]? = some x → ∀ p ∈ inA i n x, p ∈ inL i n xs
 | [], j, x, h => by cases j <;> cases h
 | y :: r, 0, x, h => by cases h; intro p hp; unfold inL; exact List.mem_append.2 (.inl hp)
 | y :: r, j + 1, x, h => by intro p hp; unfold inL; exact List.mem_append.2 (.inr (inL_get (xs := r) h p hp))
theorem isAv_fz {i : Nat} {dp : Bool} {c : TC} {l : List (U c)} {x : A} (h : isAv (fzA i dp c l x) = false) : isAv x = false := by
 cases x <;> first | rfl | (unfold fzA at h; exact h)
theorem enc_fz {i : Nat} {dp : Bool} {c : TC} {l : List (U c)} (c' : TC) (d : U c') : ∀ x ∈ enc c' d, fzA i dp c l x = x := fun x hx => by
 have := enc_plain c' d x hx
 cases x <;> first | (unfold fzA; rfl) | exact this.elim
theorem enc_in {i n : Nat} (c' : TC) (d : U c') : ∀ x ∈ enc c' d, inA i n x = [] := fun x hx => by
 have := enc_plain c' d x hx
 cases x <;> first | (unfold inA; rfl) | exact this.elim
section
variable {F F' : Nat → Prop} {N : Nm} {nx : Nat} {R : World}
theorem Ext.wide (h : ∀ g, F g → F' g) : Ext F N nx R F' N nx R := ⟨Nat.le_refl _, fun _ _ => rfl, fun _ _ => rfl, h, fun _ _ => rfl⟩
theorem fzA_ok {i : Nat} {dp : Bool} {c : TC} {l : List (U c)} (hrow : dp = false → Hv F' N nx R (.sl c l) (N.q i)) (hpl : dp = false → 0 < l.length → ∃ ad, ad = placeOf (N.q i) ∧ F' ad.block ∧ ∀ (k : Nat) (d : U c), l[k]? = some d → HC F' N nx R (enc c d) (ad.add (k * size c)))
  (hdq : dp = true → Hv F' N nx R (.sl c l) (fam (N.q i) 0)) (hiv : dp = true → ∀ k, k < l.length → Hv F' N nx R (ivA c l k) (fam (N.q i) (k + 1))) (hF : ∀ g, F g → F' g) {x : A} {y : Value} (h : Hv F N nx R x y) : (∀ p ∈ inA i l.length x, p) → Hv F' N nx R (fzA i dp c l x) y := by
 induction h with
 | v x => intro _; unfold fzA; exact .v x
 | @sl c' l' a cap ad h1 h2 h3 h4 ih =>
  intro _
  unfold fzA
  refine .sl ad h1 (fun hn => ⟨(h2 hn).1, hF _ (h2 hn).2⟩) h3 (fun k d j x y hd hx hy => ?_)
  have hm := List.mem_of_getElem? hx
  have := ih k d j x y hd hx hy (fun p hp => by rw [enc_in c' d x hm] at hp; cases hp)
  rwa [enc_fz c' d x hm] at this
 | @ref xs ad h1 h2 h3 ih =>
  intro hp
  unfold fzA
  unfold inA at hp
  refine .ref ad (hF _ h1) (fun j x hx => ?_) (fun j x y hx hy => ?_)
  ·obtain ⟨z, hz, rfl⟩ := fzL_get hx; exact h2 j z hz
  ·obtain ⟨z, hz, rfl⟩ := fzL_get hx; exact ih j z y hz hy fun p hm => hp p (inL_get hz p hm)
 | own h => intro _; unfold fzA; exact .own h
 | ownx h => intro _; unfold fzA; exact .ownx h
 | @sq j h =>
  intro _
  unfold fzA
  cases hb : Nat.beq j i with
  | true =>
   obtain rfl := Nat.eq_of_beq_eq_true hb
   cases dp with
   | true => exact .dead _
   | false => exact hrow rfl
  | false => exact .sq h
 | @vw j sz lo n f a cap h h1 h2 h3 =>
  intro hp
  unfold fzA
  cases hb : Nat.beq j i with
  | false => exact .vw h h1 h2 h3
  | true =>
   obtain rfl := Nat.eq_of_beq_eq_true hb
   cases dp with
   | true => exact .dead _
   | false =>
   cases hb2 : Nat.beq sz (size c) with
   | false => exact .dead _
   | true =>
    obtain rfl := Nat.eq_of_beq_eq_true hb2
    unfold inA at hp
    rw [hb] at hp
    have hle : lo + n ≤ l.length := hp _ (List.mem_singleton.2 rfl)
    have hlen : ((l.drop lo).take n).length = n := by rw [List.length_take, List.length_drop]; omega
    have main : Hv F' N nx R (.sl c ((l.drop lo).take n)) (.slice a ((l.drop lo).take n).length cap) := by
     refine Hv.of_sl (by omega) fun hn => ?_
     rw [hlen] at hn
     obtain ⟨ad, e1, e2, e3⟩ := hpl rfl (by omega)
     refine ⟨ad.add (lo * size c), by rw [h3 hn, e1], by rw [add_block]; exact e2, fun k d hd => ?_⟩
     rw [add_add, ← Nat.add_mul]
     refine e3 (lo + k) d ?_
     rw [List.getElem?_take] at hd
     split at hd <;> first | (cases hd; done) | skip
     rwa [List.getElem?_drop] at hd
    rw [hlen] at main
    exact main
 | @el j k sz off h =>
  intro _
  unfold fzA
  cases hb : Nat.beq j i with
  | false => exact .el h
  | true => exact .dead _
 | @dq j h =>
  intro _
  unfold fzA
  cases hb : Nat.beq j i with
  | false => exact .dq h
  | true =>
   obtain rfl := Nat.eq_of_beq_eq_true hb
   cases dp with
   | true => exact hdq rfl
   | false => exact .dead _
 | @iv j k h =>
  intro hp
  unfold fzA
  cases hb : Nat.beq j i with
  | false => exact .iv h
  | true =>
   obtain rfl := Nat.eq_of_beq_eq_true hb
   cases dp with
   | true =>
    unfold inA at hp
    rw [hb] at hp
    exact hiv rfl k (hp _ (List.mem_singleton.2 rfl))
   | false => exact .dead _
 | @de j k sz off h =>
  intro _
  unfold fzA
  cases hb : Nat.beq j i with
  | false => exact .de h
  | true => exact .dead _
 | @ie j k m sz off h =>
  intro _
  unfold fzA
  cases hb : Nat.beq j i with
  | false => exact .ie h
  | true => exact .dead _
 | mp h => intro _; unfold fzA; exact .mp h
 | nl a => intro _; unfold fzA; exact .nl a
 | it q vs y h => intro _; unfold fzA; exact .it q vs y h
 | fn vs us h1 _ h3 _ ih2 ih4 =>
  intro hp
  unfold fzA
  unfold inA at hp
  exact .fn vs us (by rw [fzL_length]; exact h1) (fun j x v hx hv => by obtain ⟨z, hz, rfl⟩ := fzL_get hx; exact ih2 j z v hz hv fun p hm => hp p (List.mem_append.2 (.inl (inL_get hz p hm)))) (by rw [fzL_length]; exact h3)
   (fun j x v hx hv => by obtain ⟨z, hz, rfl⟩ := fzL_get hx; exact ih4 j z v hz hv fun p hm => hp p (List.mem_append.2 (.inr (inL_get hz p hm))))
 | agg vs h1 _ ih =>
  intro hp
  unfold fzA
  unfold inA at hp
  exact .agg vs (by rw [fzL_length]; exact h1) (fun j x v hx hv => by obtain ⟨z, hz, rfl⟩ := fzL_get hx; exact ih j z v hz hv fun p hm => hp p (inL_get hz p hm))
 | tup vs h1 _ ih =>
  intro hp
  unfold fzA
  unfold inA at hp
  exact .tup vs (by rw [fzL_length]; exact h1) (fun j x v hx hv => by obtain ⟨z, hz, rfl⟩ := fzL_get hx; exact ih j z v hz hv fun p hm => hp p (inL_get hz p hm))
 | dead y => intro _; unfold fzA; exact .dead y
 | av h1 h2 => intro _; unfold fzA; exact .av h1 h2
 | rv vs h1 _ h3 ih =>
  intro hp
  unfold fzA
  unfold inA at hp
  refine .rv vs (by rw [fzL_length]; exact h1) (fun j x v hx hv => by obtain ⟨z, hz, rfl⟩ := fzL_get hx; exact ih j z v hz hv fun p hm => hp p (inL_get hz p hm)) (fun j x v hx hv hi => ?_)
  obtain ⟨z, hz, rfl⟩ := fzL_get hx
  exact h3 j z v hz hv (isAv_fz hi)
 | vr ad h h1 => intro _; unfold fzA; exact .vr ad h h1
theorem fzW_ok {i : Nat} {dp : Bool} {c : TC} {l : List (U c)} {n : Nat} (hf : ∀ {x : A} {y : Value}, Hv F N nx R x y → (∀ p ∈ inA i n x, p) → Hv F' N nx R (fzA i dp c l x) y) : ∀ {xs : List A} {us : List Value}, HW F N nx R xs us → (∀ p ∈ inL i n xs, p) → HW F' N nx R (fzL i dp c l xs) us
 | [], _, h, _ => by unfold fzL; exact h
 | x :: r, _, ⟨v, t, h1, h2, h3, h4⟩, hp => by
  unfold fzL
  unfold inL at hp
  exact ⟨v, t, h1, hf h2 fun p hm => hp p (List.mem_append.2 (.inl hm)), fun hi => h3 (isAv_fz hi), fzW_ok hf h4 fun p hm => hp p (List.mem_append.2 (.inr hm))⟩
theorem fzL_ok {i : Nat} {dp : Bool} {c : TC} {l : List (U c)} {n : Nat} (hf : ∀ {x : A} {y : Value}, Hv F N nx R x y → (∀ p ∈ inA i n x, p) → Hv F' N nx R (fzA i dp c l x) y) : ∀ {xs : List A} {vs : List Value}, HL F N nx R xs vs → (∀ p ∈ inL i n xs, p) → HL F' N nx R (fzL i dp c l xs) vs
 | [], _, h, _ => by unfold fzL; exact h
 | x :: r, _, ⟨v, vs, h1, h2, h3⟩, hp => by
  unfold fzL
  unfold inL at hp
  exact ⟨v, vs, h1, hf h2 fun p hm => hp p (List.mem_append.2 (.inl hm)), fzL_ok hf h3 fun p hm => hp p (List.mem_append.2 (.inr hm))⟩
end
section
variable {F F' : Nat → Prop} {N : Nm} {nx : Nat} {R : World} {tm : Nat → Value}
theorem fzS_ok {i : Nat} {dp : Bool} {c : TC} {l : List (U c)} {n : Nat} (fz : ∀ {x : A} {y : Value}, Hv F N nx R x y → (∀ p ∈ inA i n x, p) → Hv F' N nx R (fzA i dp c l x) y) : ∀ {x : A} {y : Value}, HS F N nx R tm x y → (∀ p ∈ inA i n x, p) → HS F' N nx R tm (fzA i dp c l x) y
 | .opt u b x, _, h, hp => by
  unfold inA at hp
  unfold fzA
  simp only [HS] at h ⊢
  exact ⟨fun hb => fzS_ok fz (h.1 hb) hp, h.2⟩
 | .sq j, _, h, hp => (HS_plain (by unfold fzA; cases Nat.beq j i <;> cases dp <;> rfl)).2 (fz ((HS_plain rfl).1 h) hp)
 | .vw j z _ _ _, _, h, hp => (HS_plain (by unfold fzA; cases Nat.beq j i <;> cases dp <;> first | rfl | (cases Nat.beq z (size c) <;> rfl))).2 (fz ((HS_plain rfl).1 h) hp)
 | .el j _ _ _, _, h, hp => (HS_plain (by unfold fzA; cases Nat.beq j i <;> rfl)).2 (fz ((HS_plain rfl).1 h) hp)
 | .dq j, _, h, hp => (HS_plain (by unfold fzA; cases Nat.beq j i <;> cases dp <;> rfl)).2 (fz ((HS_plain rfl).1 h) hp)
 | .iv j k, _, h, hp => (HS_plain (by unfold fzA; cases Nat.beq j i <;> cases dp <;> first | rfl | (unfold ivA; split <;> rfl))).2 (fz ((HS_plain rfl).1 h) hp)
 | .de j _ _ _, _, h, hp => (HS_plain (by unfold fzA; cases Nat.beq j i <;> rfl)).2 (fz ((HS_plain rfl).1 h) hp)
 | .ie j _ _ _ _, _, h, hp => (HS_plain (by unfold fzA; cases Nat.beq j i <;> rfl)).2 (fz ((HS_plain rfl).1 h) hp)
 | .v _, _, h, hp => (HS_plain (by unfold fzA; rfl)).2 (fz ((HS_plain rfl).1 h) hp)
 | .sl _ _, _, h, hp => (HS_plain (by unfold fzA; rfl)).2 (fz ((HS_plain rfl).1 h) hp)
 | .ref _, _, h, hp => (HS_plain (by unfold fzA; rfl)).2 (fz ((HS_plain rfl).1 h) hp)
 | .own _ _, _, h, hp => (HS_plain (by unfold fzA; rfl)).2 (fz ((HS_plain rfl).1 h) hp)
 | .ownx _ _ _ _, _, h, hp => (HS_plain (by unfold fzA; rfl)).2 (fz ((HS_plain rfl).1 h) hp)
 | .mp _, _, h, hp => (HS_plain (by unfold fzA; rfl)).2 (fz ((HS_plain rfl).1 h) hp)
 | .nl, _, h, hp => (HS_plain (by unfold fzA; rfl)).2 (fz ((HS_plain rfl).1 h) hp)
 | .it _ _, _, h, hp => (HS_plain (by unfold fzA; rfl)).2 (fz ((HS_plain rfl).1 h) hp)
 | .fn _ _ _, _, h, hp => (HS_plain (by unfold fzA; rfl)).2 (fz ((HS_plain rfl).1 h) hp)
 | .agg _, _, h, hp => (HS_plain (by unfold fzA; rfl)).2 (fz ((HS_plain rfl).1 h) hp)
 | .tup _, _, h, hp => (HS_plain (by unfold fzA; rfl)).2 (fz ((HS_plain rfl).1 h) hp)
 | .dead, _, h, hp => (HS_plain (by unfold fzA; rfl)).2 (fz ((HS_plain rfl).1 h) hp)
 | .av _ _ _, _, h, hp => (HS_plain (by unfold fzA; rfl)).2 (fz ((HS_plain rfl).1 h) hp)
 | .rv _, _, h, hp => (HS_plain (by unfold fzA; rfl)).2 (fz ((HS_plain rfl).1 h) hp)
 | .vr _ _ _ _, _, h, hp => (HS_plain (by unfold fzA; rfl)).2 (fz ((HS_plain rfl).1 h) hp)
end
def fzT (i : Nat) (dp : Bool) (c : TC) (l : List (U c)) : Slots → Slots
 | [] => []
 | (k, x) :: r => (k, fzA i dp c l x) :: fzT i dp c l r
def inT (i n : Nat) : Slots → List Prop
 | [] => []
 | (_, x) :: r => inA i n x ++ inT i n r
def fzLL (i : Nat) (dp : Bool) (c : TC) (l : List (U c)) : List (List A) → List (List A)
 | [] => []
 | x :: r => fzL i dp c l x :: fzLL i dp c l r
def inLL (i n : Nat) : List (List A) → List Prop
 | [] => []
 | x :: r => inL i n x ++ inLL i n r
def fzOb (i : Nat) (dp : Bool) (c : TC) (l : List (U c)) : Ob → Ob
 | .box e cs => .box e (fzL i dp c l cs)
 | .arr e sz (.lst cs) => .arr e sz (.lst (fzLL i dp c l cs))
 | .arr e sz (.ty c' l') => .arr e sz (.ty c' l')
 | .map k v m => .map k v m
 | .sit s p => .sit s p
 | .deep e c' l' => .deep e c' l'
 | .rcd e xs => .rcd e (fzL i dp c l xs)
 | .abs m c' l' => .abs m c' l'
def inOb (i n : Nat) : Ob → List Prop
 | .box _ cs => inL i n cs
 | .rcd _ xs => inL i n xs
 | .arr _ _ (.lst cs) => inLL i n cs
 | _ => []
def fzO (i : Nat) (dp : Bool) (c : TC) (l : List (U c)) : Objs → Objs
 | [] => []
 | (k, x) :: r => (k, bif Nat.beq k i then none else (match x with
  | some ob => some (fzOb i dp c l ob)
  | none => none)) :: fzO i dp c l r
def inO (i n : Nat) : Objs → List Prop
 | [] => []
 | (_, some ob) :: r => inOb i n ob ++ inO i n r
 | (_, none) :: r => inO i n r
def keysO : Objs → List Nat
 | [] => []
 | (k, _) :: r => k :: keysO r
theorem lookO_none {i : Nat} : ∀ {A B : Objs}, i ∉ keysO A → lookO i (A ++ B) = lookO i B
 | [], _, _ => rfl
 | (k, x) :: r, B, h => by
  have hk : Nat.beq k i = false := beq_ne fun e => h (by rw [e]; exact List.mem_cons_self ..)
  show (bif Nat.beq k i then x else lookO i (r ++ B)) = lookO i B
  rw [hk]
  exact lookO_none fun hm => h (List.mem_cons_of_mem _ hm)
theorem lookO_in {i : Nat} : ∀ {A B : Objs}, i ∈ keysO A → lookO i (A ++ B) = lookO i A
 | [], _, h => by cases h
 | (k, x) :: r, B, h => by
  show (bif Nat.beq k i then x else lookO i (r ++ B)) = (bif Nat.beq k i then x else lookO i r)
  cases hb : Nat.beq k i with
  | true => rfl
  | false =>
   rcases List.mem_cons.1 h with rfl | h
   ·simp at hb
   ·exact lookO_in h
theorem keysO_fz {i : Nat} {dp : Bool} {c : TC} {l : List (U c)} : ∀ {o : Objs}, keysO (fzO i dp c l o) = keysO o
 | [] => rfl
 | (k, x) :: r => by
  show k :: keysO (fzO i dp c l r) = k :: keysO r
  rw [keysO_fz]
def frA (i : Nat) (c : TC) (l : List (U c)) : A → A
 | .vr j base lo m => bif Nat.beq j i && Nat.beq base 0 then .sl c ((l.drop lo).take m) else .vr j base lo m
 | x => x
def irA (i n : Nat) : A → List Prop
 | .vr j base lo m => bif Nat.beq j i && Nat.beq base 0 then [lo + m ≤ n] else []
 | _ => []
def frT (i : Nat) (c : TC) (l : List (U c)) : Slots → Slots
 | [] => []
 | (k, x) :: r => (k, frA i c l x) :: frT i c l r
def irT (i n : Nat) : Slots → List Prop
 | [] => []
 | (_, x) :: r => irA i n x ++ irT i n r
theorem look_frT {i : Nat} {c : TC} {l : List (U c)} {u : Nat} {x : A} : ∀ {t : Slots}, look u (frT i c l t) = some x → ∃ y, look u t = some y ∧ x = frA i c l y ∧ ∀ n, ∀ p ∈ irA i n y, p ∈ irT i n t
 | [], h => by cases h
 | (k, y) :: r, h => by
  have h' : (bif Nat.beq k u then some (frA i c l y) else look u (frT i c l r)) = some x := h
  show ∃ z, (bif Nat.beq k u then some y else look u r) = some z ∧ _ ∧ ∀ n, ∀ p ∈ irA i n z, p ∈ irA i n y ++ irT i n r
  cases hb : Nat.beq k u with
  | true => rw [hb] at h'; cases h'; exact ⟨y, rfl, rfl, fun n p hp => List.mem_append.2 (.inl hp)⟩
  | false =>
   rw [hb] at h'
   obtain ⟨z, h1, h2, h3⟩ := look_frT h'
   exact ⟨z, h1, h2, fun n p hp => List.mem_append.2 (.inr (h3 n p hp))⟩
def freezeS (E : Env) (i : Nat) (s : St) : Option (St × List Prop) := match lookO i s.o with
 | some (.arr e sz els) => match E.tc e with
  | some c => bif Nat.beq sz (size c) then (match elsTy c els with
   | some (l, ps) => some ({ s with t := fzT i false c l s.t, o := fzO i false c l s.o ++ s.o }, ps ++ (inT i l.length s.t ++ inO i l.length s.o))
   | none => none) else none
  | none => none
 | some (.deep _ c l) => some ({ s with t := fzT i true c l s.t, o := fzO i true c l s.o ++ s.o }, inT i l.length s.t ++ inO i l.length s.o)
 | some (.rcd _ [.av c n l]) => some ({ s with t := frT i c l s.t, o := (i, none) :: s.o }, irT i n s.t)
 | _ => none
theorem look_fzT {i : Nat} {dp : Bool} {c : TC} {l : List (U c)} {u : Nat} {x : A} : ∀ {t : Slots}, look u (fzT i dp c l t) = some x → ∃ y, look u t = some y ∧ x = fzA i dp c l y ∧ ∀ n, ∀ p ∈ inA i n y, p ∈ inT i n t
 | [], h => by cases h
 | (k, y) :: r, h => by
  have h' : (bif Nat.beq k u then some (fzA i dp c l y) else look u (fzT i dp c l r)) = some x := h
  show ∃ z, (bif Nat.beq k u then some y else look u r) = some z ∧ _ ∧ ∀ n, ∀ p ∈ inA i n z, p ∈ inA i n y ++ inT i n r
  cases hb : Nat.beq k u with
  | true => rw [hb] at h'; cases h'; exact ⟨y, rfl, rfl, fun n p hp => List.mem_append.2 (.inl hp)⟩
  | false =>
   rw [hb] at h'
   obtain ⟨z, h1, h2, h3⟩ := look_fzT h'
   exact ⟨z, h1, h2, fun n p hp => List.mem_append.2 (.inr (h3 n p hp))⟩
theorem lookO_fzO {i : Nat} {dp : Bool} {c : TC} {l : List (U c)} {j : Nat} {ob : Ob} : ∀ {o : Objs}, lookO j (fzO i dp c l o) = some ob → ∃ ob', lookO j o = some ob' ∧ ob = fzOb i dp c l ob' ∧ j ≠ i ∧ ∀ n, ∀ p ∈ inOb i n ob', p ∈ inO i n o
 | [], h => by cases h
 | (k, x) :: r, h => by
  have h' : (bif Nat.beq k j then (bif Nat.beq k i then none else (match x with | some ob => some (fzOb i dp c l ob) | none => none)) else lookO j (fzO i dp c l r)) = some ob := h
  show ∃ ob', (bif Nat.beq k j then x else lookO j r) = some ob' ∧ _ ∧ _ ∧ _
  cases hb : Nat.beq k j with
  | true =>
   rw [hb] at h'
   cases hi : Nat.beq k i with
   | true => rw [hi] at h'; cases h'
   | false =>
    rw [hi] at h'
    obtain rfl := Nat.eq_of_beq_eq_true hb
    cases x with
    | none => cases h'
    | some ob' =>
     cases h'
     exact ⟨ob', rfl, rfl, fun e => by subst e; simp at hi, fun n p hp => by show p ∈ inOb i n ob' ++ inO i n r; exact List.mem_append.2 (.inl hp)⟩
  | false =>
   rw [hb] at h'
   obtain ⟨ob', h1, h2, h3, h4⟩ := lookO_fzO h'
   refine ⟨ob', h1, h2, h3, fun n p hp => ?_⟩
   cases x with
   | none => exact h4 n p hp
   | some y => exact List.mem_append.2 (.inr (h4 n p hp))
theorem lookO_fz2 {i : Nat} {dp : Bool} {c : TC} {l : List (U c)} {j : Nat} {ob : Ob} {o : Objs} (h : lookO j (fzO i dp c l o ++ o) = some ob) : ∃ ob', lookO j o = some ob' ∧ ob = fzOb i dp c l ob' ∧ j ≠ i ∧ ∀ n, ∀ p ∈ inOb i n ob', p ∈ inO i n o := by
 by_cases hk : j ∈ keysO o
 ·rw [lookO_in (by rw [keysO_fz]; exact hk)] at h
  exact lookO_fzO h
 ·rw [lookO_none (by rw [keysO_fz]; exact hk)] at h
  have := lookO_none (A := o) (B := []) hk
  rw [List.append_nil] at this
  rw [this] at h
  cases h
theorem fzLL_nth {i : Nat} {dp : Bool} {c : TC} {l : List (U c)} : ∀ (cs : List (List A)) (k : Nat), nthL (fzLL i dp c l cs) k = fzL i dp c l (nthL cs k)
 | [], k => by unfold fzLL; cases k <;> (unfold nthL; unfold fzL; rfl)
 | x :: r, 0 => by unfold fzLL; rfl
 | x :: r, k + 1 => by unfold fzLL; exact fzLL_nth r k
theorem fzLL_length {i : Nat} {dp : Bool} {c : TC} {l : List (U c)} : ∀ (cs : List (List A)), (fzLL i dp c l cs).length = cs.length
 | [] => by unfold fzLL; rfl
 | x :: r => by unfold fzLL; rw [List.length_cons, List.length_cons, fzLL_length r]
theorem inLL_nth {i n : Nat} : ∀ (cs : List (List A)) (k : Nat), ∀ p ∈ inL i n (nthL cs k), p ∈ inLL i n cs
 | [], k, p, hp => by cases k <;> (unfold nthL at hp; unfold inL at hp; cases hp)
 | x :: r, 0, p, hp => by unfold inLL; exact List.mem_append.2 (.inl hp)
 | x :: r, k + 1, p, hp => by unfold inLL; exact List.mem_append.2 (.inr (inLL_nth r k p hp))
section
variable {E : Env} {Z : Base} {F : Nat → Prop} {N : Nm} {s s' : St} {a : Act} {R : World}
theorem freeze_sub {i : Nat} {ps : List Prop} (he : freezeS E i s = some (s', ps)) : s'.n = s.n ∧ ∃ d, s'.o = d ++ s.o := by
 unfold freezeS at he
 split at he <;> first | (cases he; done) | skip
 ·split at he <;> first | (cases he; done) | skip
  rename_i e sz els hl _ c hc
  cases hb : Nat.beq sz (size c) with
  | false => rw [hb] at he; cases he
  | true =>
   rw [hb] at he
   simp only [cond_true] at he
   split at he <;> first | (cases he; done) | skip
   cases he
   exact ⟨rfl, _, rfl⟩
 ·cases he
  exact ⟨rfl, _, rfl⟩
 ·cases he
  exact ⟨rfl, [(i, none)], rfl⟩
theorem freezeR_ok (h : Rel Z F N s a R) {i n : Nat} {e : TypeId} {c : TC} {l : List (U c)} (hl : lookO i s.o = some (.rcd e [.av c n l])) (hp : ∀ p ∈ irT i n s.t, p) :
  Rel Z (fun g => F g ∨ g = N.b i) N { s with t := frT i c l s.t, o := (i, none) :: s.o } a R := by
 have hF : ∀ g, F g → (F g ∨ g = N.b i) := fun g hg => .inl hg
 have hw : Ext F N s.nx R (fun g => F g ∨ g = N.b i) N s.nx R := Ext.wide hF
 obtain ⟨_, us, q1, q2⟩ := h.hp.ob i _ hl
 obtain ⟨v, t, e1, q3, _, q4⟩ := q1
 obtain rfl : t = [] := q4
 have hln : ∀ {j ob}, lookO j ((i, none) :: s.o) = some ob → j ≠ i ∧ lookO j s.o = some ob := fun {j ob} hj => by
  rw [lookO_cons] at hj
  by_cases hji : j = i
  ·rw [if_pos hji] at hj; cases hj
  ·rw [if_neg hji] at hj; exact ⟨hji, hj⟩
 have hst : Step F N s.nx s.o R (fun g => F g ∨ g = N.b i) N s.nx ((i, none) :: s.o) R := ⟨Nat.le_refl _, fun _ _ => rfl, fun _ _ => rfl, hF, fun g hg => by
  rcases hg with hg | hg
  ·exact .inl hg
  ·exact .inr (.inl ⟨i, _, hl, hg⟩), fun g ⟨j, ob, h1, h2⟩ => .inl ⟨j, ob, (hln h1).2, h2⟩, rfl, rfl, rfl, Nat.le_refl _, fun _ _ _ => rfl⟩
 refine ⟨h.defers, h.size, fun u x hu => ?_, ⟨fun g hg => ?_, fun j ob1 hj => ?_, fun j ob1 g hj hg hf => ?_, fun j k x y g hj hk hx hy => ?_, h.hp.gl.step hw⟩, h.st.trans hst, h.tm⟩
 ·obtain ⟨y, h1, rfl, h3⟩ := look_frT hu
  have hy := h.slots u y h1
  cases y <;> first | exact hy.step hw | skip
  rename_i j base lo m
  have hv := (HS_plain (x := .vr j base lo m) rfl).1 hy
  rw [show frA i c l (.vr j base lo m) = (bif Nat.beq j i && Nat.beq base 0 then .sl c ((l.drop lo).take m) else .vr j base lo m) from rfl]
  cases hb : (Nat.beq j i && Nat.beq base 0) with
  | false => exact hy.step hw
  | true =>
   have hin : ∀ p ∈ (bif Nat.beq j i && Nat.beq base 0 then [lo + m ≤ n] else []), p ∈ irT i n s.t := h3 n
   rw [hb] at hin
   have hlm : lo + m ≤ n := hp _ (hin _ (List.mem_singleton.2 rfl))
   rw [Bool.and_eq_true] at hb
   obtain rfl := Nat.eq_of_beq_eq_true hb.1
   obtain rfl := Nat.eq_of_beq_eq_true hb.2
   rw [cond_true]
   refine (HS_plain (x := .sl c ((l.drop lo).take m)) rfl).2 ?_
   generalize tmOf a u = w at hv ⊢
   cases hv with
   | vr ad hi h1 =>
    cases q3 with
    | av k1 k2 =>
     have hlen : ((l.drop lo).take m).length = m := by rw [List.length_take, List.length_drop]; omega
     have main : Hv (fun g => F g ∨ g = N.b j) N s.nx R (.sl c ((l.drop lo).take m)) (.slice (some ad) ((l.drop lo).take m).length m) := by
      refine Hv.of_sl (by omega) fun hn => ?_
      rw [hlen] at hn
      have had := h1 hn
      subst had
      refine ⟨_, rfl, .inr rfl, fun k d hd j' x hx => ?_⟩
      rw [size_one k1, Nat.mul_one] at *
      rw [enc_sv k1] at hx
      cases j' with
      | succ j' => cases hx
      | zero =>
       cases hx
       refine ⟨sv c d, ?_, .v _⟩
       rw [add_zero, add_mk, blk_cell q2, e1]
       rw [List.getElem?_take] at hd
       split at hd <;> first | (cases hd; done) | skip
       rw [List.getElem?_drop] at hd
       simp [Value.cells, hd]
     rw [hlen] at main
     exact main
 ·rcases hg with hg | hg
  ·exact h.hp.flt g hg
  ·exact (h.hp.ob i _ hl).2.lt hg
 ·obtain ⟨h1, h2⟩ := hln hj
  obtain ⟨k1, k2⟩ := h.hp.ob j ob1 h2
  exact ⟨k1, k2.step hw k1 fun _ _ => rfl⟩
 ·obtain ⟨h1, h2⟩ := hln hj
  rcases hf with hf | hf
  ·exact h.hp.ff j ob1 g h2 hg hf
  ·exact h1 (h.hp.sep j i ob1 _ g h2 hl hg hf)
 ·exact h.hp.sep j k x y g (hln hj).2 (hln hk).2 hx hy
theorem freeze_core (h : Rel Z F N s a R) {i : Nat} {ob : Ob} (hl : lookO i s.o = some ob) {dp : Bool} {c : TC} {l : List (U c)} (fz : ∀ {x : A} {y : Value}, Hv F N s.nx R x y → (∀ p ∈ inA i l.length x, p) → Hv (fun g => F g ∨ foot N i ob g) N s.nx R (fzA i dp c l x) y)
  (hp2 : ∀ p ∈ inT i l.length s.t, p) (hp3 : ∀ p ∈ inO i l.length s.o, p) : Rel Z (fun g => F g ∨ foot N i ob g) N { s with t := fzT i dp c l s.t, o := fzO i dp c l s.o ++ s.o } a R := by
 have hF : ∀ g, F g → (F g ∨ foot N i ob g) := fun g hg => .inl hg
 have hw : Ext F N s.nx R (fun g => F g ∨ foot N i ob g) N s.nx R := Ext.wide hF
 have fzS : ∀ {x : A} {y : Value}, HS F N s.nx R (tmOf a) x y → (∀ p ∈ inA i l.length x, p) → HS (fun g => F g ∨ foot N i ob g) N s.nx R (tmOf a) (fzA i dp c l x) y := fun hx hpp => fzS_ok fz hx hpp
 have hfoot : ∀ {j ob' g}, lookO j s.o = some ob' → foot N j (fzOb i dp c l ob') g → foot N j ob' g := fun {j ob' g} _ hg => by
  cases ob' with
  | arr e' s' els' => cases els' <;> exact hg
  | _ => exact hg
 have hst : Step F N s.nx s.o R (fun g => F g ∨ foot N i ob g) N s.nx (fzO i dp c l s.o ++ s.o) R := ⟨Nat.le_refl _, fun _ _ => rfl, fun _ _ => rfl, hF, fun g hg => by
  rcases hg with hg | hg
  ·exact .inl hg
  ·exact .inr (.inl ⟨i, _, hl, hg⟩), fun g ⟨j, ob, h1, h2⟩ => by
  obtain ⟨ob', h3, rfl, _, _⟩ := lookO_fz2 h1
  exact .inl ⟨j, ob', h3, hfoot h3 h2⟩, rfl, rfl, rfl, Nat.le_refl _, fun _ _ _ => rfl⟩
 refine ⟨h.defers, h.size, fun u x hu => ?_, ⟨fun g hg => ?_, fun j ob1 hj => ?_, fun j ob1 g hj hg hf => ?_, fun j k x y g hj hk hx hy => ?_, h.hp.gl.step hw⟩, h.st.trans hst, h.tm⟩
 ·obtain ⟨y, h1, rfl, h3⟩ := look_fzT hu
  exact fzS (h.slots u y h1) fun p hm => hp2 p (h3 _ p hm)
 ·rcases hg with hg | hg
  ·exact h.hp.flt g hg
  ·exact (h.hp.ob i ob hl).2.lt hg
 ·obtain ⟨ob', h1, rfl, h3, h4⟩ := lookO_fz2 hj
  obtain ⟨k1, k2⟩ := h.hp.ob j ob' h1
  refine ⟨k1, ?_⟩
  have hin : ∀ p ∈ inOb i l.length ob', p := fun p hm => hp3 p (h4 _ p hm)
  cases ob' with
  | box e' cs =>
   obtain ⟨vs, q1, q2⟩ := k2
   exact ⟨vs, fzL_ok (fun hx hpp => fz hx hpp) q1 hin, q2⟩
  | arr e' s' els' =>
   cases els' with
   | ty c' l' => exact k2.step hw k1 fun _ _ => rfl
   | lst cs =>
    obtain ⟨zs', q1, q2⟩ := k2
    refine ⟨zs', by simpa [Els.n, fzLL_length] using q1, fun k hk => ?_⟩
    have hk' : k < cs.length := by simpa [Els.n, fzLL_length] using hk
    show HL _ N s.nx R (nthL (fzLL i dp c l cs) k) _
    rw [fzLL_nth]
    exact fzL_ok (fun hx hpp => fz hx hpp) (q2 k hk') fun p hm => hin p (inLL_nth cs k p hm)
  | map k v m => exact k2.step hw k1 fun _ _ => rfl
  | sit st pos => exact k2
  | deep e' c' l' => exact k2.step hw k1 fun _ _ => rfl
  | abs m c' l' => exact k2.step hw k1 fun _ _ => rfl
  | rcd e' xs =>
   obtain ⟨us, q1, q2⟩ := k2
   exact ⟨us, fzW_ok (fun hx hpp => fz hx hpp) q1 hin, q2⟩
 ·obtain ⟨ob', h1, rfl, h3, _⟩ := lookO_fz2 hj
  have hg' := hfoot h1 hg
  rcases hf with hf | hf
  ·exact h.hp.ff j ob' g h1 hg' hf
  ·exact h3 (h.hp.sep j i ob' _ g h1 hl hg' hf)
 ·obtain ⟨x', h1, rfl, _, _⟩ := lookO_fz2 hj
  obtain ⟨y', h2, rfl, _, _⟩ := lookO_fz2 hk
  exact h.hp.sep j k x' y' g h1 h2 (hfoot h1 hx) (hfoot h2 hy)
theorem sl_of_own {F' : Nat → Prop} {nx : Nat} {e : TypeId} {c : TC} {l : List (U c)} {v : Value} {zs : List Value} (g1 : OwnR R e (size c) v l.length zs) (hr : ∀ k, k < l.length → HL F' N nx R (enc c (l.getD k (dflt c))) ((zs.drop (k * size c)).take (size c))) (hF : ∀ g, blkOf v = some g → F' g) :
  Hv F' N nx R (.sl c l) v ∧ (0 < l.length → ∃ ad, ad = placeOf v ∧ F' ad.block ∧ ∀ (k : Nat) (d : U c), l[k]? = some d → HC F' N nx R (enc c d) (ad.add (k * size c))) := by
 have hpl : 0 < l.length → ∃ ad, ad = placeOf v ∧ F' ad.block ∧ ∀ (k : Nat) (d : U c), l[k]? = some d → HC F' N nx R (enc c d) (ad.add (k * size c)) := fun hpos => by
  obtain ⟨g, cap, q1, _, q3, q4, q5⟩ := row_place g1 hpos
  refine ⟨_, rfl, by rw [q3]; exact hF _ q4, fun k d hd => ?_⟩
  rw [q3, add_mk, Nat.zero_add]
  intro j x hx
  have hk : k < l.length := (List.getElem?_eq_some_iff.1 hd).1
  have hgd : l.getD k (dflt c) = d := by rw [List.getD_eq_getElem?_getD, hd]; rfl
  have h3 := hr k hk
  rw [hgd] at h3
  obtain ⟨v, hv, hx2⟩ := h3.get hx
  exact ⟨v, by rw [add_mk]; exact q5 _ v (slice_get hv), hx2⟩
 refine ⟨?_, hpl⟩
 obtain ⟨aa, cap, e1, e2⟩ := g1.form
 rw [e1]
 refine Hv.of_sl e2 fun hpos => ?_
 obtain ⟨ad, q1, q2, q3⟩ := hpl hpos
 obtain ⟨g, cap', r1, _, r3, _, _⟩ := row_place g1 hpos
 refine ⟨ad, ?_, q2, q3⟩
 rw [e1] at r1
 cases r1
 rw [q1, e1]
 rfl
theorem freeze_ok (h : Rel Z F N s a R) {i : Nat} {ps : List Prop} (he : freezeS E i s = some (s', ps)) (hp : ∀ p ∈ ps, p) : ∃ F', Rel Z F' N s' a R := by
 unfold freezeS at he
 split at he <;> first | (cases he; done) | skip
 ·rename_i e sz els hl
  split at he <;> first | (cases he; done) | skip
  rename_i c hc
  cases hb : Nat.beq sz (size c) with
  | false => rw [hb] at he; cases he
  | true =>
   rw [hb] at he
   simp only [cond_true] at he
   split at he <;> first | (cases he; done) | skip
   rename_i l qs hty
   cases he
   obtain rfl := Nat.eq_of_beq_eq_true hb
   have hp1 : ∀ p ∈ qs, p := fun p hm => hp p (List.mem_append.2 (.inl hm))
   obtain ⟨hi, zs, g1, g2⟩ := h.hp.ob i _ hl
   have hr : RowHL F N s.nx R (.ty c l) (size c) zs := (show RowHL F N s.nx R els (size c) zs from ⟨g1.1, g2⟩).ty hty hp1
   have hn : l.length = els.n := (elsTy_ok (F := F) (N := N) (nx := s.nx) (R := R) hty hp1).1
   have hF : ∀ g, F g → (F g ∨ foot N i (.arr e (size c) els) g) := fun g hg => .inl hg
   rw [← hn] at g1
   obtain ⟨q1, q2⟩ := sl_of_own (F' := fun g => F g ∨ foot N i (.arr e (size c) els) g) (N := N) (nx := s.nx) g1 (fun k hk => (hr.2 k hk).step (Ext.wide hF)) (fun g hg => .inr hg)
   exact ⟨_, freeze_core h hl (fun hx => fzA_ok (fun _ => q1) (fun _ => q2) (fun e => by cases e) (fun e => by cases e) hF hx) (fun p hm => hp p (List.mem_append.2 (.inr (List.mem_append.2 (.inl hm))))) fun p hm => hp p (List.mem_append.2 (.inr (List.mem_append.2 (.inr hm))))⟩
 ·rename_i e c l hl
  cases he
  obtain ⟨hi, col, c', zs, h1, h2, h3, h4, h5⟩ := h.hp.ob i _ hl
  have hF : ∀ g, F g → (F g ∨ foot N i (.deep e c l) g) := fun g hg => .inl hg
  have hw : Ext F N s.nx R (fun g => F g ∨ foot N i (.deep e c l) g) N s.nx R := Ext.wide hF
  have hin : ∀ k, k < l.length → ∃ l' : List (U c'), (enc c (l.getD k (dflt c)))[col]? = some (.sl c' l') ∧ Hv (fun g => F g ∨ foot N i (.deep e c l) g) N s.nx R (.sl c' l') (fam (N.q i) (k + 1)) := fun k hk => by
   obtain ⟨l', e', us, k1, k2, k3⟩ := h4 k _ (getD_some hk)
   exact ⟨l', k1, (sl_of_own k2 (fun j hj => (k3 j hj).step hw) (fun g hg => .inr ⟨k + 1, by omega, hg⟩)).1⟩
  have hel : ∀ k, k < l.length → HL (fun g => F g ∨ foot N i (.deep e c l) g) N s.nx R (enc c (l.getD k (dflt c))) ((zs.drop (k * size c)).take (size c)) := fun k hk => by
   obtain ⟨l', k1, k2⟩ := hin k hk
   have hk3 := (h3 k (l.getD k (dflt c)) (getD_some hk)).step hw
   have go : ∀ (cs : List A) (vs : List Value), (∀ (p : Nat) (c2 : TC) (l2 : List (U c2)), cs[p]? = some (.sl c2 l2) → Hv (fun g => F g ∨ foot N i (.deep e c l) g) N s.nx R (.sl c2 l2) (fam (N.q i) (k + 1))) → HL (fun g => F g ∨ foot N i (.deep e c l) g) N s.nx R (encI i k cs) vs → HL (fun g => F g ∨ foot N i (.deep e c l) g) N s.nx R cs vs := fun cs => by
    induction cs with
    | nil => intro vs _ hh; rw [hh.inv0]; exact HL.nil
    | cons x r ih =>
     intro vs hc hh
     cases x
     case sl c2 l2 =>
      obtain ⟨w, ws, rfl, w1, w2⟩ := hh.inv
      rw [w1.iv_inv.2]
      exact HL.cons (hc 0 c2 l2 rfl) (ih ws (fun p c3 l3 hp => hc (p + 1) c3 l3 hp) w2)
     all_goals
      obtain ⟨w, ws, rfl, w1, w2⟩ := hh.inv
      exact HL.cons w1 (ih ws (fun p c3 l3 hp => hc (p + 1) c3 l3 hp) w2)
   refine go _ _ (fun p c2 l2 hp => ?_) hk3
   obtain rfl := colOf_only h1 _ p c2 l2 hp
   rw [k1] at hp
   cases hp
   exact k2
  have hrow := (sl_of_own h2 hel (fun g hg => .inr ⟨0, by omega, hg⟩)).1
  refine ⟨_, freeze_core h hl (fun hx => fzA_ok (fun e => by cases e) (fun e => by cases e) (fun _ => hrow) (fun _ k hk => ?_) hF hx) (fun p hm => hp p (List.mem_append.2 (.inl hm))) fun p hm => hp p (List.mem_append.2 (.inr hm))⟩
  obtain ⟨l', k1, k2⟩ := hin k hk
  unfold ivA innE
  rw [h1]
  simp only
  rw [k1]
  exact k2
 ·rename_i e c n l hl
  cases he
  exact ⟨_, freezeR_ok h hl hp⟩
end
end Go.Proofs.YtkknpeeccejppaaDoor
namespace Go.Proofs.YtkknpeeccejppaaDoor
open Go.RowKit
def gset (s : St) : Nat → Nat → Bool → Guards
 | 0, u, b => [(u, b)]
 | n + 1, u, b => (u, b) :: match s.get u with
  | some (.opt v c _) => gset s n v c
  | _ => []
def gprops (s : St) (G : Guards) : Guards → List Prop
 | [] => []
 | (u, b) :: r => match s.get u with
  | some x => match x.strip G with
   | some (.v (.bool g)) => (g = b) :: gprops s G r
   | _ => gprops s G r
  | none => gprops s G r
def gimp : List Prop → Prop → Prop
 | [], p => p
 | q :: r, p => q → gimp r p
def gimps (qs : List Prop) : List Prop → List Prop
 | [] => []
 | p :: r => gimp qs p :: gimps qs r
theorem gimp_ok : ∀ {qs : List Prop} {p : Prop}, gimp qs p → (∀ q ∈ qs, q) → p
 | [], _, h, _ => h
 | q :: r, _, h, hq => gimp_ok (h (hq q (by simp))) fun q' h' => hq q' (by simp [h'])
theorem gimps_ok {qs : List Prop} : ∀ {ps : List Prop}, (∀ p ∈ gimps qs ps, p) → (∀ q ∈ qs, q) → ∀ p ∈ ps, p
 | [], _, _, _, h => by cases h
 | p :: r, hp, hq, p', hm => by
  rcases List.mem_cons.1 hm with rfl | hm
  ·exact gimp_ok (hp _ (List.mem_cons_self ..)) hq
  ·exact gimps_ok (ps := r) (fun p h => hp p (List.mem_cons_of_mem _ h)) hq p' hm
section
variable {Z : Base} {F : Nat → Prop} {N : Nm} {s : St} {a : Act} {R : World}
theorem inG_cons {u v : Nat} {b c : Bool} {G : Guards} (h : inG u b ((v, c) :: G) = true) : (u = v ∧ b = c) ∨ inG u b G = true := by
 unfold inG at h
 cases hk : Nat.beq v u with
 | false => rw [hk] at h; exact .inr h
 | true =>
  rw [hk] at h
  simp only [cond_true] at h
  cases hb : beqB c b with
  | false => rw [hb] at h; exact .inr h
  | true => exact .inl ⟨(Nat.eq_of_beq_eq_true hk).symm, (beqB_eq hb).symm⟩
theorem opt_true (h : Rel Z F N s a R) {u v : Nat} {b c : Bool} {x : A} (hg : s.get u = some (.opt v c x)) (hu : tmOf a u = .bool b) : tmOf a v = .bool c := by
 have hh := h.slots u _ hg
 simp only [HS] at hh
 by_cases hc : tmOf a v = .bool c
 ·exact hc
 ·have := hh.2 hc
  rw [hu] at this
  cases this
theorem gset_ok (h : Rel Z F N s a R) : ∀ (n u : Nat) (b : Bool), tmOf a u = .bool b → GOk (tmOf a) (gset s n u b)
 | 0, u, b, hu, v, c, hv => by
  rcases inG_cons hv with ⟨rfl, rfl⟩ | h'
  ·exact hu
  ·cases h'
 | n + 1, u, b, hu, v, c, hv => by
  unfold gset at hv
  rcases inG_cons hv with ⟨rfl, rfl⟩ | h'
  ·exact hu
  ·split at h'
   ·rename_i v' c' x hg
    exact gset_ok h n v' c' (opt_true h hg hu) v c h'
   ·cases h'
theorem gprops_ok (h : Rel Z F N s a R) {G : Guards} (hG : GOk (tmOf a) G) : ∀ {l : Guards}, (∀ e ∈ l, tmOf a e.1 = .bool e.2) → ∀ q ∈ gprops s G l, q
 | [], _, _, hq => by cases hq
 | (u, b) :: r, hl, q, hq => by
  have hr : ∀ e ∈ r, tmOf a e.1 = .bool e.2 := fun e he => hl e (List.mem_cons_of_mem _ he)
  unfold gprops at hq
  split at hq
  ·rename_i x hx
   split at hq
   ·rename_i g hg
    rcases List.mem_cons.1 hq with rfl | hq
    ·obtain ⟨_, h2⟩ := strip_ok hG hg (h.slots u x hx)
     have h3 := hl (u, b) (List.mem_cons_self ..)
     rw [h2.v_inv] at h3
     injection h3
    ·exact gprops_ok h hG hr q hq
   ·exact gprops_ok h hG hr q hq
  ·exact gprops_ok h hG hr q hq
theorem gset_mem (h : Rel Z F N s a R) : ∀ (n u : Nat) (b : Bool), tmOf a u = .bool b → ∀ e ∈ gset s n u b, tmOf a e.1 = .bool e.2
 | 0, u, b, hu, e, he => by
  obtain rfl := List.mem_singleton.1 he
  exact hu
 | n + 1, u, b, hu, e, he => by
  unfold gset at he
  rcases List.mem_cons.1 he with rfl | he
  ·exact hu
  ·split at he
   ·rename_i v' c' x hg
    exact gset_mem h n v' c' (opt_true h hg hu) e he
   ·cases he
end
structure Mv where
 l : Option Nat
 r : Option Nat
 m : Nat
 d : Bool
abbrev Mvs := List Mv
def isO (i : Nat) : Option Nat → Bool
 | some j => Nat.beq j i
 | none => false
theorem isO_ok {i : Nat} {o : Option Nat} (h : isO i o = true) : o = some i := by
 cases o with
 | none => cases h
 | some j => rw [Nat.eq_of_beq_eq_true h]
def usedL (i : Nat) : Mvs → Bool
 | [] => false
 | e :: r => bif isO i e.l then true else usedL i r
def usedR (i : Nat) : Mvs → Bool
 | [] => false
 | e :: r => bif isO i e.r then true else usedR i r
def isNone : Option Nat → Bool
 | none => true
 | _ => false
def findP (i j : Nat) : Mvs → Option Nat
 | [] => none
 | e :: r => bif isO i e.l && isO j e.r then some e.m else findP i j r
def findR (d : Bool) (j : Nat) : Mvs → Option Nat
 | [] => none
 | e :: r => bif isNone e.l && (isO j e.r && beqB e.d d) then some e.m else findR d j r
def findL (d : Bool) (i : Nat) : Mvs → Option Nat
 | [] => none
 | e :: r => bif isO i e.l && (isNone e.r && beqB e.d d) then some e.m else findL d i r
def isRow (d : Bool) (o : Objs) (i : Nat) : Bool := match lookO i o with
 | some (.arr _ _ _) => !d
 | some (.deep _ _ _) => d
 | some (.abs _ _ _) => d
 | _ => false
abbrev Coll := Mvs × Nat
def addP (d : Bool) (o1 o2 : Objs) (i j : Nat) (c : Coll) : Coll := bif Nat.beq i j then c else
 bif usedL i c.1 || usedR j c.1 then c else bif isRow d o1 i && isRow d o2 j then (⟨some i, some j, c.2, d⟩ :: c.1, c.2 + 1) else c
def addR (d : Bool) (o2 : Objs) (j : Nat) (c : Coll) : Coll := bif usedR j c.1 then c else bif isRow d o2 j then (⟨none, some j, c.2, d⟩ :: c.1, c.2 + 1) else c
def addL (d : Bool) (o1 : Objs) (i : Nat) (c : Coll) : Coll := bif usedL i c.1 then c else bif isRow d o1 i then (⟨some i, none, c.2, d⟩ :: c.1, c.2 + 1) else c
def collLs (f : A → A → Coll → Coll) : List A → List A → Coll → Coll
 | x :: xs, y :: ys, c => collLs f xs ys (f x y c)
 | _, _, c => c
def collA (o1 o2 : Objs) : Nat → A → A → Coll → Coll
 | 0, _, _, c => c
 | d + 1, x, y, c => match x, y with
  | .sq i, .sq j => addP false o1 o2 i j c
  | .v x, .sq j => bif isNilV x then addR false o2 j c else c
  | .sq i, .v y => bif isNilV y then addL false o1 i c else c
  | .dq i, .dq j => addP true o1 o2 i j c
  | .v x, .dq j => bif isNilV x then addR true o2 j c else c
  | .dq i, .v y => bif isNilV y then addL true o1 i c else c
  | .agg xs, .agg ys => collLs (collA o1 o2 d) xs ys c
  | .tup xs, .tup ys => collLs (collA o1 o2 d) xs ys c
  | .fn _ xs us, .fn _ ys ws => collLs (collA o1 o2 d) us ws (collLs (collA o1 o2 d) xs ys c)
  | .v (.agg xs), .agg ys => collLs (collA o1 o2 d) (toL xs.toList) ys c
  | .agg xs, .v (.agg ys) => collLs (collA o1 o2 d) xs (toL ys.toList) c
  | .v (.tuple xs), .tup ys => collLs (collA o1 o2 d) (toL xs.toList) ys c
  | .tup xs, .v (.tuple ys) => collLs (collA o1 o2 d) xs (toL ys.toList) c
  | _, _ => c
def mergeX (M : Mvs) : Nat → Bool → A → A → A
 | 0, _, _, _ => .dead
 | d + 1, g, x, y => match (bif isMix x y then spread x else x), (bif isMix x y then spread y else y) with
  | .sq i, .sq j => bif Nat.beq i j then .sq i else match findP i j M with
   | some m => .sq m
   | none => .dead
  | .v x, .sq j => bif isNilV x then (match findR false j M with
   | some m => .sq m
   | none => .dead) else .dead
  | .sq i, .v y => bif isNilV y then (match findL false i M with
   | some m => .sq m
   | none => .dead) else .dead
  | .dq i, .dq j => bif Nat.beq i j then .dq i else match findP i j M with
   | some m => .dq m
   | none => .dead
  | .v x, .dq j => bif isNilV x then (match findR true j M with
   | some m => .dq m
   | none => .dead) else .dead
  | .dq i, .v y => bif isNilV y then (match findL true i M with
   | some m => .dq m
   | none => .dead) else .dead
  | .agg xs, .agg ys => aggA (mergeLs (mergeX M d g) g xs ys)
  | .tup xs, .tup ys => .tup (mergeLs (mergeX M d g) g xs ys)
  | .fn f xs us, .fn h ys ws => bif Nat.beq f h then .fn f (mergeLs (mergeX M d g) g xs ys) (mergeLs (mergeX M d g) g us ws) else .dead
  | .vw i sz lo n _, .vw j sz' lo' n' _ => bif Nat.beq i j then (bif Nat.beq sz sz' then .vw i sz (bif g then lo else lo') (bif g then n else n') false else .dead) else .dead
  | .el i k sz off, .el j k' sz' off' => bif Nat.beq i j then (bif Nat.beq sz sz' then (bif Nat.beq off off' then .el i (bif g then k else k') sz off else .dead) else .dead) else .dead
  | x, y => mergeA 4 g x y
def mergeM (M : Mvs) (g : Bool) (x y : A) : A := mergeX M 5 g x y
def nilQ (d : Bool) : Value := bif d then .agg #[.slice none 0 0] else .slice none 0 0
def MvOk (N : Nm) (nx : Nat) (sel : Mv → Option Nat) (M : Mvs) : Prop := ∀ e ∈ M, e.m < nx ∧ (∀ i, sel e = some i → i < nx ∧ N.q e.m = N.q i) ∧ (sel e = none → N.q e.m = nilQ e.d)
def side (g : Bool) : Mv → Option Nat := bif g then Mv.l else Mv.r
section
variable {F : Nat → Prop} {N : Nm} {nx : Nat} {R : World} {g : Bool} {M : Mvs}
theorem findP_mem {i j m : Nat} : ∀ {M : Mvs}, findP i j M = some m → ∃ e ∈ M, e.l = some i ∧ e.r = some j ∧ e.m = m
 | [], h => by cases h
 | e :: r, h => by
  unfold findP at h
  cases hb : (isO i e.l && isO j e.r) with
  | true =>
   rw [hb] at h
   cases h
   rw [Bool.and_eq_true] at hb
   exact ⟨e, List.mem_cons_self .., isO_ok hb.1, isO_ok hb.2, rfl⟩
  | false =>
   rw [hb] at h
   obtain ⟨e', h1, h2⟩ := findP_mem (M := r) h
   exact ⟨e', List.mem_cons_of_mem _ h1, h2⟩
theorem isNone_ok {o : Option Nat} (h : isNone o = true) : o = none := by cases o <;> first | rfl | cases h
theorem findR_mem {d : Bool} {j m : Nat} : ∀ {M : Mvs}, findR d j M = some m → ∃ e ∈ M, e.l = none ∧ e.r = some j ∧ e.m = m ∧ e.d = d
 | [], h => by cases h
 | e :: r, h => by
  unfold findR at h
  cases hb : (isNone e.l && (isO j e.r && beqB e.d d)) with
  | true =>
   rw [hb] at h
   cases h
   rw [Bool.and_eq_true, Bool.and_eq_true] at hb
   exact ⟨e, List.mem_cons_self .., isNone_ok hb.1, isO_ok hb.2.1, rfl, beqB_eq hb.2.2⟩
  | false =>
   rw [hb] at h
   obtain ⟨e', h1, h2⟩ := findR_mem (M := r) h
   exact ⟨e', List.mem_cons_of_mem _ h1, h2⟩
theorem findL_mem {d : Bool} {j m : Nat} : ∀ {M : Mvs}, findL d j M = some m → ∃ e ∈ M, e.l = some j ∧ e.r = none ∧ e.m = m ∧ e.d = d
 | [], h => by cases h
 | e :: r, h => by
  unfold findL at h
  cases hb : (isO j e.l && (isNone e.r && beqB e.d d)) with
  | true =>
   rw [hb] at h
   cases h
   rw [Bool.and_eq_true, Bool.and_eq_true] at hb
   exact ⟨e, List.mem_cons_self .., isO_ok hb.1, isNone_ok hb.2.1, rfl, beqB_eq hb.2.2⟩
  | false =>
   rw [hb] at h
   obtain ⟨e', h1, h2⟩ := findL_mem (M := r) h
   exact ⟨e', List.mem_cons_of_mem _ h1, h2⟩
theorem Hv.sq_as {i m : Nat} {v : Value} (h : Hv F N nx R (.sq i) v) (hm : m < nx) (e : N.q m = N.q i) : Hv F N nx R (.sq m) v := by
 rw [h.sq_inv.2, ← e]
 exact .sq hm
theorem Hv.dq_as {i m : Nat} {v : Value} (h : Hv F N nx R (.dq i) v) (hm : m < nx) (e : N.q m = N.q i) : Hv F N nx R (.dq m) v := by
 rw [h.dq_inv.2, ← e]
 exact .dq hm
theorem mergeX_ok (hM : MvOk N nx (side g) M) : ∀ (d : Nat) {x y : A} {v : Value}, Hv F N nx R (bif g then x else y) v → Hv F N nx R (mergeX M d g x y) v
 | 0, _, _, _, _ => .dead _
 | d + 1, x, y, v, h => by
  have ih : ∀ {x y v}, Hv F N nx R (bif g then x else y) v → Hv F N nx R (mergeX M d g x y) v := fun h => mergeX_ok hM d h
  have h' : Hv F N nx R (bif g then (bif isMix x y then spread x else x) else (bif isMix x y then spread y else y)) v := by
   cases isMix x y with
   | false => exact h
   | true => cases g <;> exact spread_ok h
  unfold mergeX
  generalize (bif isMix x y then spread x else x) = x' at *
  generalize (bif isMix x y then spread y else y) = y' at *
  clear h
  have h := h'
  clear h'
  split
  ·rename_i i j
   cases h1 : Nat.beq i j with
   | true =>
    obtain rfl := Nat.eq_of_beq_eq_true h1
    cases g <;> exact h
   | false =>
    simp only [cond_false]
    split
    ·rename_i m hm
     obtain ⟨e, h2, h3, h4, rfl⟩ := findP_mem hm
     obtain ⟨k1, k2, _⟩ := hM e h2
     cases g with
     | true => exact Hv.sq_as h k1 (k2 i h3).2
     | false => exact Hv.sq_as h k1 (k2 j h4).2
    ·exact .dead _
  ·rename_i x j
   cases hx : isNilV x with
   | false => exact .dead _
   | true =>
    obtain rfl := isNilV_ok hx
    simp only [cond_true]
    split
    ·rename_i m hm
     obtain ⟨e, h2, h3, h4, rfl, h9⟩ := findR_mem hm
     obtain ⟨k1, k2, k3⟩ := hM e h2
     cases g with
     | true =>
      have k4 := k3 h3
      rw [h9] at k4
      rw [h.v_inv, show Value.slice none 0 0 = N.q e.m from k4.symm]
      exact .sq k1
     | false => exact Hv.sq_as h k1 (k2 j h4).2
    ·exact .dead _
  ·rename_i i y
   cases hx : isNilV y with
   | false => exact .dead _
   | true =>
    obtain rfl := isNilV_ok hx
    simp only [cond_true]
    split
    ·rename_i m hm
     obtain ⟨e, h2, h3, h4, rfl, h9⟩ := findL_mem hm
     obtain ⟨k1, k2, k3⟩ := hM e h2
     cases g with
     | true => exact Hv.sq_as h k1 (k2 i h3).2
     | false =>
      have k4 := k3 h4
      rw [h9] at k4
      rw [h.v_inv, show Value.slice none 0 0 = N.q e.m from k4.symm]
      exact .sq k1
    ·exact .dead _
  ·rename_i i j
   cases h1 : Nat.beq i j with
   | true =>
    obtain rfl := Nat.eq_of_beq_eq_true h1
    cases g <;> exact h
   | false =>
    simp only [cond_false]
    split
    ·rename_i m hm
     obtain ⟨e, h2, h3, h4, rfl⟩ := findP_mem hm
     obtain ⟨k1, k2, _⟩ := hM e h2
     cases g with
     | true => exact Hv.dq_as h k1 (k2 i h3).2
     | false => exact Hv.dq_as h k1 (k2 j h4).2
    ·exact .dead _
  ·rename_i x j
   cases hx : isNilV x with
   | false => exact .dead _
   | true =>
    obtain rfl := isNilV_ok hx
    simp only [cond_true]
    split
    ·rename_i m hm
     obtain ⟨e, h2, h3, h4, rfl, h9⟩ := findR_mem hm
     obtain ⟨k1, k2, k3⟩ := hM e h2
     cases g with
     | true =>
      have k4 := k3 h3
      rw [h9] at k4
      have hdq : Hv F N nx R (.dq e.m) (fam (N.q e.m) 0) := .dq k1
      have hf : fam (N.q e.m) 0 = .slice none 0 0 := by rw [k4]; rfl
      rw [hf] at hdq
      rw [h.v_inv]
      exact hdq
     | false => exact Hv.dq_as h k1 (k2 j h4).2
    ·exact .dead _
  ·rename_i i y
   cases hx : isNilV y with
   | false => exact .dead _
   | true =>
    obtain rfl := isNilV_ok hx
    simp only [cond_true]
    split
    ·rename_i m hm
     obtain ⟨e, h2, h3, h4, rfl, h9⟩ := findL_mem hm
     obtain ⟨k1, k2, k3⟩ := hM e h2
     cases g with
     | true => exact Hv.dq_as h k1 (k2 i h3).2
     | false =>
      have k4 := k3 h4
      rw [h9] at k4
      have hdq : Hv F N nx R (.dq e.m) (fam (N.q e.m) 0) := .dq k1
      have hf : fam (N.q e.m) 0 = .slice none 0 0 := by rw [k4]; rfl
      rw [hf] at hdq
      rw [h.v_inv]
      exact hdq
    ·exact .dead _
  ·rename_i xs ys
   have h' : Hv F N nx R (.agg (bif g then xs else ys)) v := by cases g <;> exact h
   obtain ⟨vs, rfl, h2⟩ := h'.agg_inv
   exact aggA_ok (mergeLs_ok ih h2)
  ·rename_i xs ys
   have h' : Hv F N nx R (.tup (bif g then xs else ys)) v := by cases g <;> exact h
   obtain ⟨vs, rfl, h2⟩ := h'.tup_inv
   exact Hv.of_tup (mergeLs_ok ih h2)
  ·rename_i f xs us h0 ys ws
   cases h1 : Nat.beq f h0 with
   | false => exact .dead _
   | true =>
    obtain rfl := Nat.eq_of_beq_eq_true h1
    have h' : Hv F N nx R (.fn f (bif g then xs else ys) (bif g then us else ws)) v := by cases g <;> exact h
    obtain ⟨vs, ks, rfl, h2, h3⟩ := h'.fn_inv
    exact Hv.of_fn (mergeLs_ok ih h2) (mergeLs_ok ih h3)
  ·rename_i i sz lo n f j sz' lo' n' f'
   cases h1 : Nat.beq i j with
   | false => exact .dead _
   | true =>
    cases h2 : Nat.beq sz sz' with
    | false => exact .dead _
    | true =>
     obtain rfl := Nat.eq_of_beq_eq_true h1
     obtain rfl := Nat.eq_of_beq_eq_true h2
     cases g with
     | true =>
      obtain ⟨k1, a, c, rfl, k2, _, k4⟩ := h.vw_inv
      exact .vw k1 k2 (fun e => by cases e) k4
     | false =>
      obtain ⟨k1, a, c, rfl, k2, _, k4⟩ := h.vw_inv
      exact .vw k1 k2 (fun e => by cases e) k4
  ·rename_i i k sz off j k' sz' off'
   cases h1 : Nat.beq i j with
   | false => exact .dead _
   | true =>
    cases h2 : Nat.beq sz sz' with
    | false => exact .dead _
    | true =>
     cases h3 : Nat.beq off off' with
     | false => exact .dead _
     | true =>
      obtain rfl := Nat.eq_of_beq_eq_true h1
      obtain rfl := Nat.eq_of_beq_eq_true h2
      obtain rfl := Nat.eq_of_beq_eq_true h3
      cases g <;> exact h
  ·exact mergeA_ok 4 h
theorem mergeM_ok (hM : MvOk N nx (side g) M) {x y : A} {v : Value} (h : Hv F N nx R (bif g then x else y) v) : Hv F N nx R (mergeM M g x y) v := by
 exact mergeX_ok hM 5 h
end
def mergeEls (M : Mvs) (g : Bool) : Els → Els → Option Els
 | .ty c l, .ty c' l' => match TC.same c' c with
  | some h => some (.ty c (bif g then l else castL h.down l'))
  | none => none
 | .lst cs, .ty c l => match decs c cs with
  | some (l', []) => some (.ty c (bif g then l' else l))
  | _ => none
 | .ty c l, .lst cs => match decs c cs with
  | some (l', []) => some (.ty c (bif g then l else l'))
  | _ => none
 | .lst xs, .lst ys => bif Nat.beq xs.length ys.length then some (.lst ((xs.zip ys).map fun p => mergeLs (mergeM M g) g p.1 p.2)) else none
def mergeR1 (M : Mvs) (g : Bool) (x y : A) : Option A := match x, y with
 | .av c n l, .av c' n' l' => match TC.same c' c with
  | some h => bif Nat.beq n n' then some (.av c n (bif g then l else castL h.down l')) else none
  | none => none
 | x, y => bif isAv x || isAv y || isAv (mergeM M g x y) then none else some (mergeM M g x y)
def mergeRs (M : Mvs) (g : Bool) : List A → List A → Option (List A)
 | [], [] => some []
 | x :: xs, y :: ys => match mergeRs M g xs ys with
  | some r => match mergeR1 M g x y with
   | some z => some (z :: r)
   | none => none
  | none => none
 | _, _ => none
def z0 : TC → Value → Bool
 | .u8, .int .u8 n => n == 0
 | .u32, .int .u32 n => n == 0
 | .i64, .int .i64 n => n == 0
 | .bool, .bool b => !b
 | _, _ => false
def zeroL (c : TC) : List A → Bool
 | [] => true
 | .v x :: r => z0 c x && zeroL c r
 | _ => false
theorem z0_ok {c : TC} {x : Value} (h : z0 c x = true) : x = sv c (dflt c) := by
 unfold z0 at h
 split at h <;> first | (cases h; done) | skip
 ·rw [eq_of_beq h]; rfl
 ·rw [eq_of_beq h]; rfl
 ·rw [eq_of_beq h]; rfl
 ·rename_i b
  cases b with
  | true => cases h
  | false => rfl
theorem zeroL_ok {F : Nat → Prop} {N : Nm} {nx : Nat} {R : World} {c : TC} : ∀ {cs : List A} {vs : List Value}, HL F N nx R cs vs → zeroL c cs = true → vs = (List.replicate cs.length (dflt c)).map (sv c)
 | [], _, h, _ => h.inv0
 | x :: r, vs, h, hz => by
  obtain ⟨v, us, rfl, h1, h2⟩ := h.inv
  cases x <;> first | (cases hz; done) | skip
  unfold zeroL at hz
  rw [Bool.and_eq_true] at hz
  rw [List.length_cons, List.replicate_succ, List.map_cons, ← zeroL_ok h2 hz.2, h1.v_inv, z0_ok hz.1]
theorem zero_rcd {F : Nat → Prop} {N : Nm} {nx : Nat} {R : World} {i : Nat} {e : TypeId} {c : TC} {n : Nat} {cs : List A} (h : ObR F N nx R i (.box e cs)) (hb : (Nat.beq cs.length n && (c.one && zeroL c cs)) = true) : ObR F N nx R i (.rcd e [.av c n (List.replicate n (dflt c))]) := by
 simp only [Bool.and_eq_true] at hb
 obtain ⟨b1, b2, b3⟩ := hb
 obtain rfl := Nat.eq_of_beq_eq_true b1
 obtain ⟨vs, h1, h2⟩ := h
 refine ⟨vs, ⟨.agg ((List.replicate cs.length (dflt c)).map (sv c)).toArray, [], ?_, .av b2 (by rw [List.length_replicate]), fun e => (by cases e), rfl⟩, h2⟩
 rw [zeroL_ok h1 b3]
 simp [Value.cells]
def mergeOb (M : Mvs) (g : Bool) : Ob → Ob → Option Ob
 | .box e cs, .box e' cs' => bif Nat.beq e e' then some (.box e (mergeLs (mergeM M g) g cs cs')) else none
 | .arr e sz els, .arr e' sz' els' => bif Nat.beq e e' then (bif Nat.beq sz sz' then (match mergeEls M g els els' with
  | some r => some (.arr e sz r)
  | none => none) else none) else none
 | .map k v l, .map k' v' l' => match TC.same k' k, TC.same v' v with
  | some h, some h' => some (.map k v (bif g then l else (h.down ▸ h'.down ▸ l' : List (U k × U v))))
  | _, _ => none
 | .sit b p, .sit b' p' => some (.sit (bif g then b else b') (bif g then p else p'))
 | .deep e c l, .deep e' c' l' => match TC.same c' c with
  | some h => bif Nat.beq e e' then some (.deep e c (bif g then l else castL h.down l')) else none
  | none => none
 | .rcd e xs, .rcd e' xs' => bif Nat.beq e e' then (match mergeRs M g xs xs' with
  | some r => some (.rcd e r)
  | none => none) else none
 | .abs m c l, .abs m' c' l' => match TC.same c' c with
  | some h => bif Nat.beq m m' then some (.abs m c (bif g then l else castL h.down l')) else none
  | none => none
 | .box e cs, .rcd e' [.av c n l] => bif Nat.beq e e' && (Nat.beq cs.length n && (c.one && zeroL c cs)) then some (.rcd e [.av c n (bif g then List.replicate n (dflt c) else l)]) else none
 | .rcd e' [.av c n l], .box e cs => bif Nat.beq e e' && (Nat.beq cs.length n && (c.one && zeroL c cs)) then some (.rcd e [.av c n (bif g then l else List.replicate n (dflt c))]) else none
 | _, _ => none
section
variable {F : Nat → Prop} {N : Nm} {nx : Nat} {R : World} {g : Bool} {M : Mvs} {size : Nat}
theorem mergeRs_ok (hM : MvOk N nx (side g) M) : ∀ {xs ys r : List A} {us : List Value}, mergeRs M g xs ys = some r → HW F N nx R (bif g then xs else ys) us → HW F N nx R r us
 | [], [], _, _, he, h => by cases he; cases g <;> exact h
 | [], _ :: _, _, _, he, _ => by cases he
 | _ :: _, [], _, _, he, _ => by cases he
 | x :: xs, y :: ys, r, us, he, h => by
  unfold mergeRs at he
  split at he <;> first | (cases he; done) | skip
  rename_i t ht
  split at he <;> first | (cases he; done) | skip
  rename_i z hz
  cases he
  obtain ⟨v, ts, h1, h2, h3, h4⟩ : HW F N nx R ((bif g then x else y) :: (bif g then xs else ys)) us := by cases g <;> exact h
  refine ⟨v, ts, h1, ?_⟩
  have hrest := mergeRs_ok hM ht h4
  unfold mergeR1 at hz
  split at hz
  ·rename_i c n l c' n' l'
   split at hz <;> first | (cases hz; done) | skip
   rename_i hh _
   obtain ⟨hh⟩ := hh
   subst hh
   cases hb : Nat.beq n n' with
   | false => rw [hb] at hz; cases hz
   | true =>
    rw [hb] at hz
    cases hz
    obtain rfl := Nat.eq_of_beq_eq_true hb
    exact ⟨by cases g <;> exact h2, fun e => (by cases e), hrest⟩
  ·cases hb : isAv x || isAv y || isAv (mergeM M g x y) with
   | true => rw [hb] at hz; cases hz
   | false =>
    rw [hb] at hz
    cases hz
    refine ⟨mergeM_ok hM h2, fun _ => h3 ?_, hrest⟩
    rw [Bool.or_eq_false_iff, Bool.or_eq_false_iff] at hb
    cases g
    ·exact hb.1.2
    ·exact hb.1.1
theorem mergeEls_ok (hM : MvOk N nx (side g) M) {x y r : Els} {zs : List Value} (he : mergeEls M g x y = some r) (h : RowHL F N nx R (bif g then x else y) size zs) : r.n = (bif g then x else y).n ∧ RowHL F N nx R r size zs := by
 unfold mergeEls at he
 split at he
 ·rename_i c l c' l'
  split at he <;> first | (cases he; done) | skip
  rename_i h1 _
  obtain ⟨h1⟩ := h1
  subst h1
  cases he
  cases g <;> exact ⟨rfl, h⟩
 ·rename_i cs c l
  split at he <;> first | (cases he; done) | skip
  rename_i l' hl
  cases he
  cases g with
  | false => exact ⟨rfl, h⟩
  | true => exact ⟨(decs_ok (F := F) (N := N) (nx := nx) (R := R) hl (fun p hp => by cases hp)).1, RowHL.ty (els := .lst cs) h hl (fun p hp => by cases hp)⟩
 ·rename_i c l cs
  split at he <;> first | (cases he; done) | skip
  rename_i l' hl
  cases he
  cases g with
  | true => exact ⟨rfl, h⟩
  | false => exact ⟨(decs_ok (F := F) (N := N) (nx := nx) (R := R) hl (fun p hp => by cases hp)).1, RowHL.ty (els := .lst cs) h hl (fun p hp => by cases hp)⟩
 ·rename_i xs ys
  cases hb : Nat.beq xs.length ys.length with
  | false => rw [hb] at he; cases he
  | true =>
   rw [hb] at he
   cases he
   have hlen := Nat.eq_of_beq_eq_true hb
   have hz : ((xs.zip ys).map fun p => mergeLs (mergeM M g) g p.1 p.2).length = xs.length := by rw [List.length_map, List.length_zip]; omega
   have hn : (Els.lst ((xs.zip ys).map fun p => mergeLs (mergeM M g) g p.1 p.2)).n = (bif g then Els.lst xs else Els.lst ys).n := by
    show List.length _ = _
    rw [hz]
    cases g with
    | true => rfl
    | false => exact hlen
   refine ⟨hn, by rw [hn]; exact h.1, fun k hk => ?_⟩
   rw [hn] at hk
   have h2 := h.2 k hk
   have hkx : k < xs.length := by cases g with
    | true => exact hk
    | false => have : k < ys.length := hk; omega
   have hky : k < ys.length := by omega
   show HL F N nx R (nthL _ k) _
   rw [nthL_get, List.getD_eq_getElem?_getD, List.getElem?_map]
   have e1 : (xs.zip ys)[k]? = some (xs[k], ys[k]) := by
    rw [List.getElem?_zip_eq_some]
    exact ⟨List.getElem?_eq_getElem hkx, List.getElem?_eq_getElem hky⟩
   rw [e1]
   show HL F N nx R (mergeLs (mergeM M g) g xs[k] ys[k]) _
   refine mergeLs_ok (fun hh => mergeM_ok hM hh) ?_
   have e2 : (bif g then Els.lst xs else Els.lst ys).nth k = bif g then xs[k] else ys[k] := by
    cases g with
    | true => show nthL xs k = xs[k]; rw [nthL_get, List.getD_eq_getElem?_getD, List.getElem?_eq_getElem hkx]; rfl
    | false => show nthL ys k = ys[k]; rw [nthL_get, List.getD_eq_getElem?_getD, List.getElem?_eq_getElem hky]; rfl
   rw [e2] at h2
   exact h2
theorem mergeOb_ok (hM : MvOk N nx (side g) M) {i : Nat} {x y r : Ob} (he : mergeOb M g x y = some r) : (ObR F N nx R i (bif g then x else y) → ObR F N nx R i r) ∧ ∀ gg, foot N i r gg ↔ foot N i (bif g then x else y) gg := by
 unfold mergeOb at he
 split at he <;> first | (cases he; done) | skip
 ·rename_i e cs e' cs'
  cases hb : Nat.beq e e' with
  | false => rw [hb] at he; cases he
  | true =>
   rw [hb] at he
   cases he
   obtain rfl := Nat.eq_of_beq_eq_true hb
   refine ⟨fun h => ?_, fun gg => by cases g <;> exact Iff.rfl⟩
   have h' : ObR F N nx R i (.box e (bif g then cs else cs')) := by cases g <;> exact h
   obtain ⟨vs, h1, h2⟩ := h'
   exact ⟨vs, mergeLs_ok (fun hh => mergeM_ok hM hh) h1, h2⟩
 ·rename_i e sz els e' sz' els'
  cases hb : Nat.beq e e' with
  | false => rw [hb] at he; cases he
  | true =>
   cases hb2 : Nat.beq sz sz' with
   | false => rw [hb, hb2] at he; cases he
   | true =>
    rw [hb, hb2] at he
    simp only [cond_true] at he
    split at he <;> first | (cases he; done) | skip
    rename_i r' hr
    cases he
    obtain rfl := Nat.eq_of_beq_eq_true hb
    obtain rfl := Nat.eq_of_beq_eq_true hb2
    refine ⟨fun h => ?_, fun gg => by cases g <;> exact Iff.rfl⟩
    have h' : ObR F N nx R i (.arr e sz (bif g then els else els')) := by cases g <;> exact h
    obtain ⟨zs, h1, h2⟩ := h'
    obtain ⟨k1, k2⟩ := mergeEls_ok hM hr ⟨h1.1, h2⟩
    exact ⟨zs, by rw [k1]; exact h1, k2.2⟩
 ·rename_i k v l k' v' l'
  split at he <;> first | (cases he; done) | skip
  rename_i h1 h2 _ _
  obtain ⟨h1⟩ := h1
  obtain ⟨h2⟩ := h2
  subst h1 h2
  cases he
  exact ⟨fun h => by cases g <;> exact h, fun gg => by cases g <;> exact Iff.rfl⟩
 ·cases he
  exact ⟨fun h => by cases g <;> exact h, fun gg => by cases g <;> exact Iff.rfl⟩
 ·rename_i e c l e' c' l'
  split at he <;> first | (cases he; done) | skip
  rename_i h1 _
  obtain ⟨h1⟩ := h1
  subst h1
  cases hb : Nat.beq e e' with
  | false => rw [hb] at he; cases he
  | true =>
   rw [hb] at he
   cases he
   obtain rfl := Nat.eq_of_beq_eq_true hb
   exact ⟨fun h => by cases g <;> exact h, fun gg => by cases g <;> exact Iff.rfl⟩
 ·rename_i e xs e' xs'
  cases hb : Nat.beq e e' with
  | false => rw [hb] at he; cases he
  | true =>
   rw [hb] at he
   simp only [cond_true] at he
   split at he <;> first | (cases he; done) | skip
   rename_i r' hr
   cases he
   obtain rfl := Nat.eq_of_beq_eq_true hb
   refine ⟨fun h => ?_, fun gg => by cases g <;> exact Iff.rfl⟩
   have h' : ObR F N nx R i (.rcd e (bif g then xs else xs')) := by cases g <;> exact h
   obtain ⟨us, h1, h2⟩ := h'
   exact ⟨us, mergeRs_ok hM hr h1, h2⟩
 ·rename_i m c l m' c' l'
  split at he <;> first | (cases he; done) | skip
  rename_i h1 _
  obtain ⟨h1⟩ := h1
  subst h1
  cases hb : Nat.beq m m' with
  | false => rw [hb] at he; cases he
  | true =>
   rw [hb] at he
   cases he
   obtain rfl := Nat.eq_of_beq_eq_true hb
   exact ⟨fun h => by cases g <;> exact h, fun gg => by cases g <;> exact Iff.rfl⟩
 ·rename_i e cs e' c n l
  cases hb : (Nat.beq e e' && (Nat.beq cs.length n && (c.one && zeroL c cs))) with
  | false => rw [hb] at he; cases he
  | true =>
   rw [hb] at he
   cases he
   rw [Bool.and_eq_true] at hb
   obtain rfl := Nat.eq_of_beq_eq_true hb.1
   refine ⟨fun h => ?_, fun gg => by cases g <;> exact Iff.rfl⟩
   cases g with
   | true => exact zero_rcd h hb.2
   | false => exact h
 ·rename_i e' c n l e cs
  cases hb : (Nat.beq e e' && (Nat.beq cs.length n && (c.one && zeroL c cs))) with
  | false => rw [hb] at he; cases he
  | true =>
   rw [hb] at he
   cases he
   rw [Bool.and_eq_true] at hb
   obtain rfl := Nat.eq_of_beq_eq_true hb.1
   refine ⟨fun h => ?_, fun gg => by cases g <;> exact Iff.rfl⟩
   cases g with
   | true => exact h
   | false => exact zero_rcd h hb.2
end
def mvS (sel oth : Mv → Option Nat) (oo : Objs) : Mvs → Nat → Objs → Option (Nat × Objs)
 | [], nx, o => some (nx, o)
 | e :: r, nx, o => match mvS sel oth oo r nx o with
  | some (nx', o') => bif Nat.ble nx' e.m then (match sel e with
   | some i => match lookO i o' with
    | some (.arr t sz els) => bif Nat.blt i nx' then some (e.m + 1, (i, none) :: (e.m, some (.arr t sz els)) :: o') else none
    | some (.deep t c l) => bif Nat.blt i nx' then some (e.m + 1, (i, none) :: (e.m, some (.deep t c l)) :: o') else none
    | some (.abs t c l) => bif Nat.blt i nx' then some (e.m + 1, (i, none) :: (e.m, some (.abs t c l)) :: o') else none
    | _ => none
   | none => match oth e with
    | some j => match lookO j oo with
     | some (.arr t sz _) => bif e.d then none else some (e.m + 1, (e.m, some (.arr t sz (.lst []))) :: o')
     | some (.deep t c _) => match colOf c with
      | some _ => bif e.d then some (e.m + 1, (e.m, some (.deep t c [])) :: o') else none
      | none => none
     | _ => none
    | none => none) else none
  | none => none
section
variable {F : Nat → Prop} {N : Nm} {nx : Nat} {o : Objs} {R : World}
theorem HRel.move (h : HRel F N nx o R) {i m : Nat} {ob0 : Ob} (hl : lookO i o = some ob0) (hm : nx ≤ m) (hob : Ext F N nx R F (N.setQ m (N.q i)) (m + 1) R → (N.setQ m (N.q i)).q m = N.q i → ObR F N nx R i ob0 → ObR F (N.setQ m (N.q i)) (m + 1) R m ob0) (fm0 : (N.setQ m (N.q i)).q m = N.q i → ∀ g, foot (N.setQ m (N.q i)) m ob0 g → foot N i ob0 g) :
  HRel F (N.setQ m (N.q i)) (m + 1) ((i, none) :: (m, some ob0) :: o) R ∧ Step F N nx o R F (N.setQ m (N.q i)) (m + 1) ((i, none) :: (m, some ob0) :: o) R := by
 have hq : ∀ k, k < nx → (N.setQ m (N.q i)).q k = N.q k := fun k hk => setF_ne N.q _ (by omega)
 have hqm : (N.setQ m (N.q i)).q m = N.q i := setF_same N.q m _
 have st : Ext F N nx R F (N.setQ m (N.q i)) (m + 1) R := ⟨by omega, fun _ _ => rfl, hq, fun _ h => h, fun _ _ => rfl⟩
 have cases_ : ∀ k ob, lookO k ((i, none) :: (m, some ob0) :: o) = some ob → (k = m ∧ k ≠ i ∧ ob = ob0) ∨ (k ≠ m ∧ k ≠ i ∧ lookO k o = some ob) := fun k ob hk => by
  rw [lookO_cons] at hk
  by_cases hki : k = i
  ·rw [if_pos hki] at hk; cases hk
  ·rw [if_neg hki, lookO_cons] at hk
   by_cases hkm : k = m
   ·rw [if_pos hkm] at hk; cases hk; exact .inl ⟨hkm, hki, rfl⟩
   ·rw [if_neg hkm] at hk; exact .inr ⟨hkm, hki, hk⟩
 have fm := fm0 hqm
 have fo : ∀ k ob g, lookO k o = some ob → foot (N.setQ m (N.q i)) k ob g → foot N k ob g := fun k ob g hk hg => (foot_step st (h.ob k ob hk).1).1 hg
 refine ⟨⟨h.flt, fun k ob hk => ?_, fun k ob g hk hg => ?_, fun j k x y g hj hk hx hy => ?_, h.gl⟩, by omega, fun _ _ => rfl, hq, fun _ h => h, fun _ h => .inl h, fun g ⟨k, ob, hk, hg⟩ => ?_, rfl, rfl, rfl, Nat.le_refl _, fun _ _ _ => rfl⟩
 ·rcases cases_ k ob hk with ⟨rfl, _, rfl⟩ | ⟨_, _, hk'⟩
  ·exact ⟨Nat.lt_succ_self _, hob st hqm (h.ob i _ hl).2⟩
  ·obtain ⟨h1, h2⟩ := h.ob k ob hk'
   exact ⟨by omega, h2.step st h1 fun _ _ => rfl⟩
 ·rcases cases_ k ob hk with ⟨rfl, _, rfl⟩ | ⟨_, _, hk'⟩
  ·exact h.ff i _ g hl (fm g hg)
  ·exact h.ff k ob g hk' (fo k ob g hk' hg)
 ·rcases cases_ j x hj with ⟨rfl, hji, rfl⟩ | ⟨hjm, hji, hj'⟩
  ·rcases cases_ k y hk with ⟨rfl, _, _⟩ | ⟨hkm, hki, hk'⟩
   ·rfl
   ·exact absurd (h.sep i k _ y g hl hk' (fm g hx) (fo k y g hk' hy)).symm hki
  ·rcases cases_ k y hk with ⟨rfl, hki, rfl⟩ | ⟨hkm, hki, hk'⟩
   ·exact absurd (h.sep j i x _ g hj' hl (fo j x g hj' hx) (fm g hy)) hji
   ·exact h.sep j k x y g hj' hk' (fo j x g hj' hx) (fo k y g hk' hy)
 ·rcases cases_ k ob hk with ⟨rfl, _, rfl⟩ | ⟨_, _, hk'⟩
  ·exact .inl ⟨i, _, hl, fm g hg⟩
  ·exact .inl ⟨k, ob, hk', fo k ob g hk' hg⟩
theorem HRel.moveR (h : HRel F N nx o R) {i m : Nat} {t : TypeId} {sz : Nat} {els : Els} (hl : lookO i o = some (.arr t sz els)) (hm : nx ≤ m) :
  HRel F (N.setQ m (N.q i)) (m + 1) ((i, none) :: (m, some (.arr t sz els)) :: o) R ∧ Step F N nx o R F (N.setQ m (N.q i)) (m + 1) ((i, none) :: (m, some (.arr t sz els)) :: o) R :=
 h.move hl hm (fun st hqm ⟨zs, h1, h2⟩ => ⟨zs, by rw [hqm]; exact h1, fun j hj => (h2 j hj).step st⟩) fun hqm g hg => by
  have hg' : blkOf ((N.setQ m (N.q i)).q m) = some g := hg
  rw [hqm] at hg'
  exact hg'
theorem HRel.moveD (h : HRel F N nx o R) {i m : Nat} {t : TypeId} {c : TC} {l : List (U c)} (hl : lookO i o = some (.deep t c l)) (hm : nx ≤ m) :
  HRel F (N.setQ m (N.q i)) (m + 1) ((i, none) :: (m, some (.deep t c l)) :: o) R ∧ Step F N nx o R F (N.setQ m (N.q i)) (m + 1) ((i, none) :: (m, some (.deep t c l)) :: o) R :=
 h.move hl hm (fun st hqm ⟨col, c', zs, h1, h2, h3, h4, h5⟩ => ⟨col, c', zs, h1, by rw [hqm]; exact h2, fun k d hd => (h3 k d hd).moved st (Nat.lt_succ_self _) (by rw [hqm]), fun k d hd => by
   obtain ⟨l', e', us, k1, k2, k3⟩ := h4 k d hd
   exact ⟨l', e', us, k1, by rw [hqm]; exact k2, fun j hj => (k3 j hj).step st⟩, by rw [hqm]; exact h5⟩) fun hqm g ⟨k, hk, hg⟩ => ⟨k, hk, by rw [hqm] at hg; exact hg⟩
theorem HRel.moveA (h : HRel F N nx o R) {i m : Nat} {t : Nat} {c : TC} {l : List (U c)} (hl : lookO i o = some (.abs t c l)) (hm : nx ≤ m) :
  HRel F (N.setQ m (N.q i)) (m + 1) ((i, none) :: (m, some (.abs t c l)) :: o) R ∧ Step F N nx o R F (N.setQ m (N.q i)) (m + 1) ((i, none) :: (m, some (.abs t c l)) :: o) R :=
 h.move hl hm (fun _ hqm ⟨hh, h1, h2⟩ => ⟨hh, by rw [hqm]; exact h1, by rw [hqm]; exact h2⟩) fun hqm g ⟨k, hg⟩ => ⟨k, by rw [hqm] at hg; exact hg⟩
theorem HRel.nilG (h : HRel F N nx o R) {m : Nat} {ob0 : Ob} (v : Value) (hm : nx ≤ m) (hob : (N.setQ m v).q m = v → ObR F (N.setQ m v) (m + 1) R m ob0) (fm0 : (N.setQ m v).q m = v → ∀ g, ¬ foot (N.setQ m v) m ob0 g) :
  HRel F (N.setQ m v) (m + 1) ((m, some ob0) :: o) R ∧ Step F N nx o R F (N.setQ m v) (m + 1) ((m, some ob0) :: o) R := by
 have hq : ∀ k, k < nx → (N.setQ m v).q k = N.q k := fun k hk => setF_ne N.q _ (by omega)
 have hqm : (N.setQ m v).q m = v := setF_same N.q m _
 have st : Ext F N nx R F (N.setQ m v) (m + 1) R := ⟨by omega, fun _ _ => rfl, hq, fun _ h => h, fun _ _ => rfl⟩
 have cases_ : ∀ k ob, lookO k ((m, some ob0) :: o) = some ob → (k = m ∧ ob = ob0) ∨ (k ≠ m ∧ lookO k o = some ob) := fun k ob hk => by
  rw [lookO_cons] at hk
  by_cases hkm : k = m
  ·rw [if_pos hkm] at hk; cases hk; exact .inl ⟨hkm, rfl⟩
  ·rw [if_neg hkm] at hk; exact .inr ⟨hkm, hk⟩
 have fm := fm0 hqm
 have fo : ∀ k ob g, lookO k o = some ob → foot (N.setQ m v) k ob g → foot N k ob g := fun k ob g hk hg => (foot_step st (h.ob k ob hk).1).1 hg
 refine ⟨⟨h.flt, fun k ob hk => ?_, fun k ob g hk hg => ?_, fun j k x y g hj hk hx hy => ?_, h.gl⟩, by omega, fun _ _ => rfl, hq, fun _ h => h, fun _ h => .inl h, fun g ⟨k, ob, hk, hg⟩ => ?_, rfl, rfl, rfl, Nat.le_refl _, fun _ _ _ => rfl⟩
 ·rcases cases_ k ob hk with ⟨rfl, rfl⟩ | ⟨_, hk'⟩
  ·exact ⟨Nat.lt_succ_self _, hob hqm⟩
  ·obtain ⟨h1, h2⟩ := h.ob k ob hk'
   exact ⟨by omega, h2.step st h1 fun _ _ => rfl⟩
 ·rcases cases_ k ob hk with ⟨rfl, rfl⟩ | ⟨_, hk'⟩
  ·exact absurd hg (fm g)
  ·exact h.ff k ob g hk' (fo k ob g hk' hg)
 ·rcases cases_ j x hj with ⟨rfl, rfl⟩ | ⟨hjm, hj'⟩
  ·exact absurd hx (fm g)
  ·rcases cases_ k y hk with ⟨rfl, rfl⟩ | ⟨hkm, hk'⟩
   ·exact absurd hy (fm g)
   ·exact h.sep j k x y g hj' hk' (fo j x g hj' hx) (fo k y g hk' hy)
 ·rcases cases_ k ob hk with ⟨rfl, rfl⟩ | ⟨_, hk'⟩
  ·exact absurd hg (fm g)
  ·exact .inl ⟨k, ob, hk', fo k ob g hk' hg⟩
theorem HRel.nilRow (h : HRel F N nx o R) {m : Nat} (t : TypeId) (sz : Nat) {els : Els} (he : els.n = 0) (hm : nx ≤ m) :
  HRel F (N.setQ m (.slice none 0 0)) (m + 1) ((m, some (.arr t sz els)) :: o) R ∧ Step F N nx o R F (N.setQ m (.slice none 0 0)) (m + 1) ((m, some (.arr t sz els)) :: o) R :=
 h.nilG _ hm (fun hqm => ⟨[], by rw [hqm]; exact ⟨by rw [he]; simp, .inl ⟨none, rfl, he⟩⟩, fun j hj => absurd hj (by omega)⟩) fun hqm g hg => by
  have hg' : blkOf ((N.setQ m (.slice none 0 0)).q m) = some g := hg
  rw [hqm] at hg'
  cases hg'
theorem HRel.nilD (h : HRel F N nx o R) {m : Nat} (t : TypeId) {c : TC} {cc : Nat × TC} (hc : colOf c = some cc) (hm : nx ≤ m) :
  HRel F (N.setQ m (nilQ true)) (m + 1) ((m, some (.deep t c [])) :: o) R ∧ Step F N nx o R F (N.setQ m (nilQ true)) (m + 1) ((m, some (.deep t c [])) :: o) R :=
 h.nilG _ hm (fun hqm => ⟨cc.1, cc.2, [], hc, by rw [hqm]; exact ⟨by simp, .inl ⟨none, rfl, rfl⟩⟩, (fun k d hd => by cases k <;> cases hd), (fun k d hd => by cases k <;> cases hd), fun k k' g hk hk' _ _ => by simp at hk hk'; omega⟩) fun hqm g ⟨k, hk, hg⟩ => by
  rw [hqm] at hg
  obtain rfl : k = 0 := by simp at hk; omega
  cases hg
theorem mvS_ok (h : HRel F N nx o R) {sel oth : Mv → Option Nat} {oo : Objs} : ∀ {M : Mvs} {nx' : Nat} {o' : Objs}, mvS sel oth oo M nx o = some (nx', o') →
  ∃ N', HRel F N' nx' o' R ∧ Step F N nx o R F N' nx' o' R ∧ MvOk N' nx' sel M ∧ ∃ d, o' = d ++ o
 | [], nx', o', he => by cases he; exact ⟨N, h, .refl, (fun e he => by cases he), [], rfl⟩
 | e :: r, nx', o', he => by
  unfold mvS at he
  split at he <;> first | (cases he; done) | skip
  rename_i nx1 o1 h1
  obtain ⟨N1, k1, k2, k3, d, k4⟩ := mvS_ok h h1
  cases hb : Nat.ble nx1 e.m with
  | false => rw [hb] at he; cases he
  | true =>
   rw [hb] at he
   simp only [cond_true] at he
   have hm := Nat.le_of_ble_eq_true hb
   split at he
   ·rename_i i hi
    split at he <;> first | (cases he; done) | skip
    ·rename_i t sz els hl
     cases hlt : Nat.blt i nx1 with
     | false => rw [hlt] at he; cases he
     | true =>
      rw [hlt] at he
      cases he
      have hin : i < nx1 := Nat.le_of_ble_eq_true hlt
      obtain ⟨q1, q2⟩ := k1.moveR hl hm
      refine ⟨_, q1, k2.trans q2, fun e' he' => ?_, (i, none) :: (e.m, some (.arr t sz els)) :: d, by rw [k4]; rfl⟩
      rcases List.mem_cons.1 he' with rfl | he'
      ·refine ⟨Nat.lt_succ_self _, fun i' hi' => ?_, fun hn => ?_⟩
       ·rw [hi] at hi'
        cases hi'
        refine ⟨by omega, ?_⟩
        show setF N1.q e'.m (N1.q i) e'.m = setF N1.q e'.m (N1.q i) i
        rw [setF_same, setF_ne N1.q _ (by omega)]
       ·rw [hi] at hn; cases hn
      ·obtain ⟨g1, g2, g3⟩ := k3 e' he'
       refine ⟨by omega, fun i' hi' => ?_, fun hn => ?_⟩
       ·obtain ⟨g4, g5⟩ := g2 i' hi'
        refine ⟨by omega, ?_⟩
        show setF N1.q e.m (N1.q i) e'.m = setF N1.q e.m (N1.q i) i'
        rw [setF_ne N1.q _ (by omega : e'.m ≠ e.m), setF_ne N1.q _ (by omega : i' ≠ e.m)]
        exact g5
       ·show setF N1.q e.m (N1.q i) e'.m = _
        rw [setF_ne N1.q _ (by omega : e'.m ≠ e.m)]; exact g3 hn
    ·rename_i t c l hl
     cases hlt : Nat.blt i nx1 with
     | false => rw [hlt] at he; cases he
     | true =>
      rw [hlt] at he
      cases he
      have hin : i < nx1 := Nat.le_of_ble_eq_true hlt
      obtain ⟨q1, q2⟩ := k1.moveD hl hm
      refine ⟨_, q1, k2.trans q2, fun e' he' => ?_, (i, none) :: (e.m, some (.deep t c l)) :: d, by rw [k4]; rfl⟩
      rcases List.mem_cons.1 he' with rfl | he'
      ·refine ⟨Nat.lt_succ_self _, fun i' hi' => ?_, fun hn => ?_⟩
       ·rw [hi] at hi'
        cases hi'
        refine ⟨by omega, ?_⟩
        show setF N1.q e'.m (N1.q i) e'.m = setF N1.q e'.m (N1.q i) i
        rw [setF_same, setF_ne N1.q _ (by omega)]
       ·rw [hi] at hn; cases hn
      ·obtain ⟨g1, g2, g3⟩ := k3 e' he'
       refine ⟨by omega, fun i' hi' => ?_, fun hn => ?_⟩
       ·obtain ⟨g4, g5⟩ := g2 i' hi'
        refine ⟨by omega, ?_⟩
        show setF N1.q e.m (N1.q i) e'.m = setF N1.q e.m (N1.q i) i'
        rw [setF_ne N1.q _ (by omega : e'.m ≠ e.m), setF_ne N1.q _ (by omega : i' ≠ e.m)]
        exact g5
       ·show setF N1.q e.m (N1.q i) e'.m = _
        rw [setF_ne N1.q _ (by omega : e'.m ≠ e.m)]; exact g3 hn
    ·rename_i t c l hl
     cases hlt : Nat.blt i nx1 with
     | false => rw [hlt] at he; cases he
     | true =>
      rw [hlt] at he
      cases he
      have hin : i < nx1 := Nat.le_of_ble_eq_true hlt
      obtain ⟨q1, q2⟩ := k1.moveA hl hm
      refine ⟨_, q1, k2.trans q2, fun e' he' => ?_, (i, none) :: (e.m, some (.abs t c l)) :: d, by rw [k4]; rfl⟩
      rcases List.mem_cons.1 he' with rfl | he'
      ·refine ⟨Nat.lt_succ_self _, fun i' hi' => ?_, fun hn => ?_⟩
       ·rw [hi] at hi'
        cases hi'
        refine ⟨by omega, ?_⟩
        show setF N1.q e'.m (N1.q i) e'.m = setF N1.q e'.m (N1.q i) i
        rw [setF_same, setF_ne N1.q _ (by omega)]
       ·rw [hi] at hn; cases hn
      ·obtain ⟨g1, g2, g3⟩ := k3 e' he'
       refine ⟨by omega, fun i' hi' => ?_, fun hn => ?_⟩
       ·obtain ⟨g4, g5⟩ := g2 i' hi'
        refine ⟨by omega, ?_⟩
        show setF N1.q e.m (N1.q i) e'.m = setF N1.q e.m (N1.q i) i'
        rw [setF_ne N1.q _ (by omega : e'.m ≠ e.m), setF_ne N1.q _ (by omega : i' ≠ e.m)]
        exact g5
       ·show setF N1.q e.m (N1.q i) e'.m = _
        rw [setF_ne N1.q _ (by omega : e'.m ≠ e.m)]; exact g3 hn
   ·rename_i hi
    split at he <;> first | (cases he; done) | skip
    rename_i j hj
    split at he <;> first | (cases he; done) | skip
    ·rename_i t sz els hl
     cases hed : e.d with
     | true => rw [hed] at he; cases he
     | false =>
      rw [hed] at he
      cases he
      obtain ⟨q1, q2⟩ := k1.nilRow t sz (els := .lst []) rfl hm
      refine ⟨_, q1, k2.trans q2, fun e' he' => ?_, (e.m, some (.arr t sz (.lst []))) :: d, by rw [k4]; rfl⟩
      rcases List.mem_cons.1 he' with rfl | he'
      ·refine ⟨Nat.lt_succ_self _, fun i' hi' => ?_, fun hn => ?_⟩
       ·rw [hi] at hi'; cases hi'
       ·rw [hed]; exact setF_same N1.q _ _
      ·obtain ⟨g1, g2, g3⟩ := k3 e' he'
       refine ⟨by omega, fun i' hi' => ?_, fun hn => ?_⟩
       ·obtain ⟨g4, g5⟩ := g2 i' hi'
        refine ⟨by omega, ?_⟩
        show setF N1.q e.m _ e'.m = setF N1.q e.m _ i'
        rw [setF_ne N1.q _ (by omega : e'.m ≠ e.m), setF_ne N1.q _ (by omega : i' ≠ e.m)]
        exact g5
       ·show setF N1.q e.m _ e'.m = _
        rw [setF_ne N1.q _ (by omega : e'.m ≠ e.m)]; exact g3 hn
    ·rename_i t c l hl
     split at he <;> first | (cases he; done) | skip
     rename_i cc hcc
     cases hed : e.d with
     | false => rw [hed] at he; cases he
     | true =>
      rw [hed] at he
      cases he
      obtain ⟨q1, q2⟩ := k1.nilD t hcc hm
      refine ⟨_, q1, k2.trans q2, fun e' he' => ?_, (e.m, some (.deep t c [])) :: d, by rw [k4]; rfl⟩
      rcases List.mem_cons.1 he' with rfl | he'
      ·refine ⟨Nat.lt_succ_self _, fun i' hi' => ?_, fun hn => ?_⟩
       ·rw [hi] at hi'; cases hi'
       ·rw [hed]; exact setF_same N1.q _ _
      ·obtain ⟨g1, g2, g3⟩ := k3 e' he'
       refine ⟨by omega, fun i' hi' => ?_, fun hn => ?_⟩
       ·obtain ⟨g4, g5⟩ := g2 i' hi'
        refine ⟨by omega, ?_⟩
        show setF N1.q e.m _ e'.m = setF N1.q e.m _ i'
        rw [setF_ne N1.q _ (by omega : e'.m ≠ e.m), setF_ne N1.q _ (by omega : i' ≠ e.m)]
        exact g5
       ·show setF N1.q e.m _ e'.m = _
        rw [setF_ne N1.q _ (by omega : e'.m ≠ e.m)]; exact g3 hn
end
def inW (u : Nat) : List Nat → Bool
 | [] => false
 | k :: r => bif Nat.beq k u then true else inW u r
def depW (W : List Nat) : A → Bool
 | .opt k _ x => bif inW k W then true else depW W x
 | _ => false
def killW (W : List Nat) : Slots → Slots
 | [] => []
 | (k, x) :: r => (bif depW W x then (k, .dead) else (k, x)) :: killW W r
def merge2 (M : Mvs) (g : Bool) : Option A → Option A → A
 | some x, some y => mergeM M g x y
 | _, _ => .dead
def mergeW (M : Mvs) (g : Bool) (t1 t2 : Slots) : List Nat → Slots
 | [] => []
 | u :: r => (u, merge2 M g (look u t1) (look u t2)) :: mergeW M g t1 t2 r
def merge2o (M : Mvs) (g : Bool) : Option Ob → Option Ob → Option Ob
 | some x, some y => mergeOb M g x y
 | _, _ => none
def mergeOs (M : Mvs) (g : Bool) (o1 o2 : Objs) : List Nat → Objs
 | [] => []
 | i :: r => (i, merge2o M g (lookO i o1) (lookO i o2)) :: mergeOs M g o1 o2 r
def collT (o1 o2 : Objs) (t1 t2 : Slots) : List Nat → Coll → Coll
 | [], c => c
 | u :: r, c => match look u t1, look u t2 with
  | some x, some y => collT o1 o2 t1 t2 r (collA o1 o2 5 x y c)
  | _, _ => collT o1 o2 t1 t2 r c
def collO (o1 o2 : Objs) : List Nat → Coll → Coll
 | [], c => c
 | i :: r, c => match lookO i o1, lookO i o2 with
  | some (.box _ cs), some (.box _ cs') => collO o1 o2 r (collLs (collA o1 o2 5) cs cs' c)
  | _, _ => collO o1 o2 r c
def newK (o : Objs) (k : Nat) : List Nat := keysO (o.take (o.length - k))
def mergeS' (g : Bool) (W : List Nat) (s0 s1 s2 : St) (nx : Nat) (M : Mvs) : St :=
 match mvS Mv.l Mv.r s2.o M nx s1.o, mvS Mv.r Mv.l s1.o M nx s2.o with
 | some (n1, o1), some (n2, o2) => ⟨s0.n, Nat.max n1 n2, mergeW M g s1.t s2.t W ++ killW W s0.t, mergeOs M g o1 o2 (newK o1 s0.o.length ++ newK o2 s0.o.length) ++ s0.o⟩
 | _, _ => ⟨s0.n, nx, [], (s0.o.map fun e => (e.1, none)) ++ s0.o⟩
def mergeS (g : Bool) (W : List Nat) (s0 s1 s2 : St) : St :=
 mergeS' g W s0 s1 s2 (Nat.max s1.nx s2.nx) (collO s1.o s2.o (newK s1.o s0.o.length ++ newK s2.o s0.o.length) (collT s1.o s2.o s1.t s2.t W ([], Nat.max s1.nx s2.nx))).1
structure Sub (s s' : St) : Prop where
 n : s'.n = s.n
 seq : ∃ d, s'.o = d ++ s.o
theorem Sub.refl (s : St) : Sub s s := ⟨rfl, [], rfl⟩
theorem Sub.trans {s s1 s2 : St} (h : Sub s s1) (k : Sub s1 s2) : Sub s s2 := by
 obtain ⟨d, hd⟩ := h.seq
 obtain ⟨e, he⟩ := k.seq
 exact ⟨k.n.trans h.n, e ++ d, by rw [he, hd, List.append_assoc]⟩
section
variable {F F0 : Nat → Prop} {N N0 : Nm} {nx nx' : Nat} {o o' : Objs} {R R0 : World}
theorem HRel.nxup (h : HRel F N nx o R) (hn : nx ≤ nx') : HRel F N nx' o R ∧ Step F N nx o R F N nx' o R := by
 have st : Ext F N nx R F N nx' R := ⟨hn, fun _ _ => rfl, fun _ _ => rfl, fun _ h => h, fun _ _ => rfl⟩
 exact ⟨⟨h.flt, fun i ob hi => ⟨Nat.lt_of_lt_of_le (h.ob i ob hi).1 hn, (h.ob i ob hi).2.step st (h.ob i ob hi).1 fun _ _ => rfl⟩, h.ff, h.sep, h.gl⟩, hn, fun _ _ => rfl, fun _ _ => rfl, fun _ h => h, fun _ h => .inl h, fun _ h => .inl h, rfl, rfl, rfl, Nat.le_refl _, fun _ _ _ => rfl⟩
theorem HRel.less (h : HRel F N nx o R) (ho : ∀ i ob, lookO i o' = some ob → ∃ ob0, lookO i o = some ob0 ∧ (ObR F N nx R i ob0 → ObR F N nx R i ob) ∧ ∀ g, foot N i ob g ↔ foot N i ob0 g) : HRel F N nx o' R ∧ Step F N nx o R F N nx o' R := by
 refine ⟨⟨h.flt, fun i ob hi => ?_, fun i ob g hi hg => ?_, fun i j x y g hi hj hx hy => ?_, h.gl⟩, Nat.le_refl _, fun _ _ => rfl, fun _ _ => rfl, fun _ h => h, fun _ h => .inl h, fun g ⟨i, ob, hi, hg⟩ => ?_, rfl, rfl, rfl, Nat.le_refl _, fun _ _ _ => rfl⟩
 ·obtain ⟨ob0, h1, h2, h3⟩ := ho i ob hi
  exact ⟨(h.ob i ob0 h1).1, h2 (h.ob i ob0 h1).2⟩
 ·obtain ⟨ob0, h1, h2, h3⟩ := ho i ob hi
  exact h.ff i ob0 g h1 ((h3 g).1 hg)
 ·obtain ⟨x0, h1, h2, h3⟩ := ho i x hi
  obtain ⟨y0, k1, k2, k3⟩ := ho j y hj
  exact h.sep i j x0 y0 g h1 k1 ((h3 g).1 hx) ((k3 g).1 hy)
 ·obtain ⟨ob0, h1, h2, h3⟩ := ho i ob hi
  exact .inl ⟨i, ob0, h1, (h3 g).1 hg⟩
theorem HS.congrW {tm tm' : Nat → Value} {W : List Nat} (ht : ∀ k, inW k W = false → tm' k = tm k) : ∀ {x : A} {y : Value}, depW W x = false → HS F N nx R tm x y → HS F N nx R tm' x y
 | .opt k b x, y, hd, h => by
  unfold depW at hd
  cases hk : inW k W with
  | true => rw [hk] at hd; cases hd
  | false =>
   rw [hk] at hd
   simp only [HS] at h ⊢
   rw [ht k hk]
   exact ⟨fun hb => HS.congrW ht hd (h.1 hb), h.2⟩
 | .v _, _, _, h => (HS_plain rfl).2 ((HS_plain rfl).1 h)
 | .sl _ _, _, _, h => (HS_plain rfl).2 ((HS_plain rfl).1 h)
 | .own _ _, _, _, h => (HS_plain rfl).2 ((HS_plain rfl).1 h)
 | .ownx _ _ _ _, _, _, h => (HS_plain rfl).2 ((HS_plain rfl).1 h)
 | .sq _, _, _, h => (HS_plain rfl).2 ((HS_plain rfl).1 h)
 | .dq _, _, _, h => (HS_plain rfl).2 ((HS_plain rfl).1 h)
 | .iv _ _, _, _, h => (HS_plain rfl).2 ((HS_plain rfl).1 h)
 | .de _ _ _ _, _, _, h => (HS_plain rfl).2 ((HS_plain rfl).1 h)
 | .ie _ _ _ _ _, _, _, h => (HS_plain rfl).2 ((HS_plain rfl).1 h)
 | .vw _ _ _ _ _, _, _, h => (HS_plain rfl).2 ((HS_plain rfl).1 h)
 | .el _ _ _ _, _, _, h => (HS_plain rfl).2 ((HS_plain rfl).1 h)
 | .ref _, _, _, h => (HS_plain rfl).2 ((HS_plain rfl).1 h)
 | .mp _, _, _, h => (HS_plain rfl).2 ((HS_plain rfl).1 h)
 | .nl, _, _, h => (HS_plain rfl).2 ((HS_plain rfl).1 h)
 | .it _ _, _, _, h => (HS_plain rfl).2 ((HS_plain rfl).1 h)
 | .fn _ _ _, _, _, h => (HS_plain rfl).2 ((HS_plain rfl).1 h)
 | .agg _, _, _, h => (HS_plain rfl).2 ((HS_plain rfl).1 h)
 | .tup _, _, _, h => (HS_plain rfl).2 ((HS_plain rfl).1 h)
 | .dead, _, _, h => (HS_plain rfl).2 ((HS_plain rfl).1 h)
 | .av _ _ _, _, _, h => (HS_plain rfl).2 ((HS_plain rfl).1 h)
 | .rv _, _, _, h => (HS_plain rfl).2 ((HS_plain rfl).1 h)
 | .vr _ _ _ _, _, _, h => (HS_plain rfl).2 ((HS_plain rfl).1 h)
theorem look_append (u : Nat) : ∀ (A B : Slots), look u (A ++ B) = match look u A with | some x => some x | none => look u B
 | [], B => rfl
 | (k, x) :: r, B => by
  show (bif Nat.beq k u then some x else look u (r ++ B)) = match (bif Nat.beq k u then some x else look u r) with | some x => some x | none => look u B
  cases Nat.beq k u with
  | true => rfl
  | false => exact look_append u r B
theorem look_mergeW {M : Mvs} {g : Bool} {t1 t2 : Slots} {u : Nat} : ∀ {W : List Nat}, look u (mergeW M g t1 t2 W) = bif inW u W then some (merge2 M g (look u t1) (look u t2)) else none
 | [] => rfl
 | k :: r => by
  show (bif Nat.beq k u then some (merge2 M g (look k t1) (look k t2)) else look u (mergeW M g t1 t2 r)) = bif (bif Nat.beq k u then true else inW u r) then _ else _
  cases hb : Nat.beq k u with
  | true => rw [Nat.eq_of_beq_eq_true hb]; rfl
  | false => exact look_mergeW
theorem look_killW {W : List Nat} {u : Nat} {x : A} : ∀ {t : Slots}, look u (killW W t) = some x → x = .dead ∨ (look u t = some x ∧ depW W x = false)
 | [], h => by cases h
 | (j, y) :: r, h => by
  unfold killW at h
  show x = .dead ∨ ((bif Nat.beq j u then some y else look u r) = some x ∧ _)
  cases hd : depW W y with
  | true =>
   rw [hd] at h
   have h' : (bif Nat.beq j u then some A.dead else look u (killW W r)) = some x := h
   cases hj : Nat.beq j u with
   | true => rw [hj] at h'; cases h'; exact .inl rfl
   | false => rw [hj] at h'; exact look_killW h'
  | false =>
   rw [hd] at h
   have h' : (bif Nat.beq j u then some y else look u (killW W r)) = some x := h
   cases hj : Nat.beq j u with
   | true => rw [hj] at h'; obtain rfl : y = x := Option.some.inj h'; exact .inr ⟨rfl, hd⟩
   | false => rw [hj] at h'; exact look_killW h'
theorem keysO_merge (M : Mvs) (g : Bool) (o1 o2 : Objs) : ∀ l, keysO (mergeOs M g o1 o2 l) = l
 | [] => rfl
 | i :: r => by
  show i :: keysO (mergeOs M g o1 o2 r) = i :: r
  rw [keysO_merge M g o1 o2 r]
theorem lookO_mergeOs {M : Mvs} {g : Bool} {o1 o2 : Objs} {i : Nat} : ∀ {l : List Nat}, i ∈ l → lookO i (mergeOs M g o1 o2 l) = merge2o M g (lookO i o1) (lookO i o2)
 | [], h => by cases h
 | k :: r, h => by
  show (bif Nat.beq k i then merge2o M g (lookO k o1) (lookO k o2) else lookO i (mergeOs M g o1 o2 r)) = _
  cases hb : Nat.beq k i with
  | true => rw [Nat.eq_of_beq_eq_true hb]; rfl
  | false =>
   rcases List.mem_cons.1 h with rfl | h
   ·simp at hb
   ·exact lookO_mergeOs h
theorem lookO_all_none {i : Nat} : ∀ {o : Objs}, lookO i (o.map fun e => (e.1, none)) = none
 | [] => rfl
 | (k, x) :: r => by
  show (bif Nat.beq k i then none else lookO i (r.map fun e => (e.1, none))) = none
  cases Nat.beq k i with
  | true => rfl
  | false => exact lookO_all_none
theorem keysO_map : ∀ {o : Objs}, keysO (o.map fun e => (e.1, none)) = keysO o
 | [] => rfl
 | (k, x) :: r => by
  show k :: keysO (r.map fun e => (e.1, none)) = k :: keysO r
  rw [keysO_map]
theorem lookO_wipe {i : Nat} {o : Objs} : lookO i ((o.map fun e => (e.1, none)) ++ o) = none := by
 by_cases h : i ∈ keysO o
 ·rw [lookO_in (by rw [keysO_map]; exact h), lookO_all_none]
 ·rw [lookO_none (by rw [keysO_map]; exact h)]
  have := lookO_none (A := o) (B := []) h
  rw [List.append_nil] at this
  exact this
theorem mvS_seq {sel oth : Mv → Option Nat} {oo : Objs} {nx : Nat} {o : Objs} : ∀ {M : Mvs} {nx' : Nat} {o' : Objs}, mvS sel oth oo M nx o = some (nx', o') → ∃ d, o' = d ++ o
 | [], nx', o', he => by cases he; exact ⟨[], rfl⟩
 | e :: r, nx', o', he => by
  unfold mvS at he
  split at he <;> first | (cases he; done) | skip
  rename_i nx1 o1 h1
  obtain ⟨d, hd⟩ := mvS_seq h1
  cases hb : Nat.ble nx1 e.m with
  | false => rw [hb] at he; cases he
  | true =>
   rw [hb] at he
   simp only [cond_true] at he
   split at he
   ·rename_i i hi
    split at he <;> first | (cases he; done) | skip
    ·rename_i t sz els hl
     cases hlt : Nat.blt i nx1 with
     | false => rw [hlt] at he; cases he
     | true => rw [hlt] at he; cases he; exact ⟨(i, none) :: (e.m, some (.arr t sz els)) :: d, by rw [hd]; rfl⟩
    ·rename_i t c l hl
     cases hlt : Nat.blt i nx1 with
     | false => rw [hlt] at he; cases he
     | true => rw [hlt] at he; cases he; exact ⟨(i, none) :: (e.m, some (.deep t c l)) :: d, by rw [hd]; rfl⟩
    ·rename_i t c l hl
     cases hlt : Nat.blt i nx1 with
     | false => rw [hlt] at he; cases he
     | true => rw [hlt] at he; cases he; exact ⟨(i, none) :: (e.m, some (.abs t c l)) :: d, by rw [hd]; rfl⟩
   ·split at he <;> first | (cases he; done) | skip
    split at he <;> first | (cases he; done) | skip
    ·rename_i t sz els hl
     cases hed : e.d with
     | true => rw [hed] at he; cases he
     | false => rw [hed] at he; cases he; exact ⟨(e.m, some (.arr t sz (.lst []))) :: d, by rw [hd]; rfl⟩
    ·rename_i t c l hl
     split at he <;> first | (cases he; done) | skip
     cases hed : e.d with
     | false => rw [hed] at he; cases he
     | true => rw [hed] at he; cases he; exact ⟨(e.m, some (.deep t c [])) :: d, by rw [hd]; rfl⟩
theorem aggA_plain (cs : List A) : (aggA cs).plain = true := by unfold aggA; split <;> rfl
theorem mergeSl_plain (g : Bool) (c : TC) (l : List (U c)) (c' : TC) (l' : List (U c')) : (mergeSl g c l c' l').plain = true := by unfold mergeSl; split <;> rfl
theorem bif_plain {b : Bool} {x y : A} (hx : x.plain = true) (hy : y.plain = true) : (bif b then x else y).plain = true := by cases b <;> assumption
theorem mergeA_plain : ∀ (d : Nat) (g : Bool) (x y : A), (mergeA d g x y).plain = true
 | 0, _, _, _ => rfl
 | d + 1, g, x, y => by
  unfold mergeA
  split <;> first | rfl | exact aggA_plain _ | exact mergeSl_plain _ _ _ _ _ | (refine bif_plain ?_ rfl; first | rfl | exact bif_plain rfl rfl) | (split <;> first | rfl | exact bif_plain rfl rfl)
theorem mergeX_plain (M : Mvs) : ∀ (d : Nat) (g : Bool) (x y : A), (mergeX M d g x y).plain = true
 | 0, _, _, _ => rfl
 | d + 1, g, x, y => by
  unfold mergeX
  split <;> first | rfl | exact aggA_plain _ | exact mergeA_plain _ _ _ _ | (refine bif_plain ?_ ?_ <;> first | rfl | (split <;> rfl) | (refine bif_plain ?_ rfl; first | rfl | exact bif_plain rfl rfl))
theorem mergeM_plain (M : Mvs) (g : Bool) (x y : A) : (mergeM M g x y).plain = true := mergeX_plain M 5 g x y
theorem mergeM_opt {M : Mvs} {g : Bool} {x y : A} (h : (x.plain && y.plain) = false) : mergeM M g x y = .dead := by
 cases x <;> cases y <;> first | (cases h; done) | rfl
theorem lookO_newK {i : Nat} {d o : Objs} (h : i ∉ newK (d ++ o) o.length) : lookO i (d ++ o) = lookO i o := by
 unfold newK at h
 rw [List.length_append, Nat.add_sub_cancel, List.take_left'] at h
 ·exact lookO_none h
 ·rfl
end
section
variable {Z : Base} {F F0 : Nat → Prop} {N N0 : Nm} {s0 s1 s2 : St} {a a0 : Act} {R R0 : World} {W : List Nat} {g : Bool}
abbrev midB (F : Nat → Prop) (N : Nm) (s : St) (a : Act) (R : World) (W : List Nat) : Base := ⟨F, N, s.nx, s.o, R, tmOf a, fun u => inW u W = true⟩
theorem Rel.start (h0 : Rel Z F0 N0 s0 a0 R0) (W : List Nat) : Rel (midB F0 N0 s0 a0 R0 W) F0 N0 s0 a0 R0 := ⟨h0.defers, h0.size, h0.slots, h0.hp, .refl, fun _ _ => rfl⟩
theorem merge_core (h0 : Rel Z F0 N0 s0 a0 R0) {s : St} (h : Rel (midB F0 N0 s0 a0 R0 W) F N s a R) (hW : ∀ u, inW u W = true → Z.W u) (hn : s.n = s0.n) {nx' : Nat} {o' : Objs} {N' : Nm} (k1 : HRel F N' nx' o' R) (k2 : Step F N s.nx s.o R F N' nx' o' R) {t : Slots} {os : Objs}
  (ht : ∀ u x, look u t = some x → HS F N' nx' R (tmOf a) x (tmOf a u)) (ho : ∀ i ob, lookO i os = some ob → ∃ ob0, lookO i o' = some ob0 ∧ (ObR F N' nx' R i ob0 → ObR F N' nx' R i ob) ∧ ∀ gg, foot N' i ob gg ↔ foot N' i ob0 gg) : Rel Z F N' ⟨s0.n, nx', t, os⟩ a R := by
 obtain ⟨q1, q2⟩ := k1.less ho
 refine ⟨h.defers, h.size.trans hn, ht, q1, ((h0.st.trans h.st).trans k2).trans q2, fun u hu => ?_⟩
 rw [h.tm u fun hw => hu (hW u hw)]
 exact h0.tm u hu
theorem Rel.merge (h0 : Rel Z F0 N0 s0 a0 R0) (h : Rel (midB F0 N0 s0 a0 R0 W) F N (bif g then s1 else s2) a R) (hW : ∀ u, inW u W = true → Z.W u) (e1 : Sub s0 s1) (e2 : Sub s0 s2) : ∃ N', Rel Z F N' (mergeS g W s0 s1 s2) a R := by
 have hn : (bif g then s1 else s2).n = s0.n := by cases g <;> first | exact e1.n | exact e2.n
 have hnx : (bif g then s1 else s2).nx ≤ Nat.max s1.nx s2.nx := by cases g <;> first | exact Nat.le_max_left .. | exact Nat.le_max_right ..
 obtain ⟨u1, u2⟩ := h.hp.nxup hnx
 unfold mergeS
 generalize (collO s1.o s2.o (newK s1.o s0.o.length ++ newK s2.o s0.o.length) (collT s1.o s2.o s1.t s2.t W ([], Nat.max s1.nx s2.nx))).1 = M
 unfold mergeS'
 split
 ·rename_i n1 o1 n2 o2 g1 g2
  have main : ∃ N' nx' o', nx' ≤ Nat.max n1 n2 ∧ HRel F N' nx' o' R ∧ Step F N (Nat.max s1.nx s2.nx) (bif g then s1 else s2).o R F N' nx' o' R ∧ MvOk N' nx' (side g) M ∧ o' = (bif g then o1 else o2) := by
   cases g with
   | true =>
    obtain ⟨N', m1, m2, m3, _⟩ := mvS_ok u1 g1
    exact ⟨N', n1, o1, Nat.le_max_left .., m1, m2, m3, rfl⟩
   | false =>
    obtain ⟨N', m1, m2, m3, _⟩ := mvS_ok u1 g2
    exact ⟨N', n2, o2, Nat.le_max_right .., m1, m2, m3, rfl⟩
  have d1 : ∃ d, o1 = d ++ s0.o := by
   obtain ⟨d, hd⟩ := e1.seq
   obtain ⟨e, he⟩ := mvS_seq g1
   exact ⟨e ++ d, by rw [he, hd, List.append_assoc]⟩
  have d2 : ∃ d, o2 = d ++ s0.o := by
   obtain ⟨d, hd⟩ := e2.seq
   obtain ⟨e, he⟩ := mvS_seq g2
   exact ⟨e ++ d, by rw [he, hd, List.append_assoc]⟩
  obtain ⟨N', nx', o', hle, m1, m2, m3, rfl⟩ := main
  obtain ⟨q1, q2⟩ := m1.nxup hle
  have m3' : MvOk N' (Nat.max n1 n2) (side g) M := fun e he => ⟨Nat.lt_of_lt_of_le (m3 e he).1 hle, fun i hi => ⟨Nat.lt_of_lt_of_le ((m3 e he).2.1 i hi).1 hle, ((m3 e he).2.1 i hi).2⟩, (m3 e he).2.2⟩
  have hst := (u2.trans m2).trans q2
  have hx : Ext F N (bif g then s1 else s2).nx R F N' (Nat.max n1 n2) R := hst.ext h.hp
  refine ⟨N', merge_core h0 h hW hn q1 hst (fun u x hu => ?_) fun i ob hi => ?_⟩
  ·rw [look_append, look_mergeW] at hu
   cases hw : inW u W with
   | true =>
    rw [hw] at hu
    have hu' : merge2 M g (look u s1.t) (look u s2.t) = x := Option.some.inj hu
    unfold merge2 at hu'
    split at hu'
    ·rename_i x1 x2 k1 k2
     have hs : HS F N' (Nat.max n1 n2) R (tmOf a) (bif g then x1 else x2) (tmOf a u) := by
      cases g with
      | true => exact (h.slots u x1 k1).step hx
      | false => exact (h.slots u x2 k2).step hx
     subst hu'
     cases hp : (x1.plain && x2.plain) with
     | true =>
      rw [Bool.and_eq_true] at hp
      have hs' : Hv F N' (Nat.max n1 n2) R (bif g then x1 else x2) (tmOf a u) := by cases g <;> first | exact (HS_plain hp.1).1 hs | exact (HS_plain hp.2).1 hs
      have hm := mergeM_ok m3' hs'
      exact (HS_plain (mergeM_plain _ _ _ _)).2 hm
     | false =>
      have := mergeM_opt (M := M) (g := g) hp
      rw [this]
      exact (HS_plain rfl).2 (.dead _)
    ·subst hu'
     exact (HS_plain rfl).2 (.dead _)
   | false =>
    rw [hw] at hu
    have hu' : look u (killW W s0.t) = some x := hu
    have htm : ∀ k, inW k W = false → tmOf a k = tmOf a0 k := fun k hk => h.tm k fun hh => by
     have hh' : inW k W = true := hh
     rw [hk] at hh'; cases hh'
    rcases look_killW hu' with rfl | ⟨k1, k2⟩
    ·exact (HS_plain rfl).2 (.dead _)
    ·rw [htm u hw]
     exact HS.congrW htm k2 (((h0.slots u x k1).step (h.st.ext h0.hp)).step hx)
  ·by_cases hk : i ∈ newK o1 s0.o.length ++ newK o2 s0.o.length
   ·rw [lookO_in (by rw [keysO_merge]; exact hk), lookO_mergeOs hk] at hi
    unfold merge2o at hi
    split at hi <;> first | (cases hi; done) | skip
    rename_i x1 x2 k1 k2
    obtain ⟨r1, r2⟩ := mergeOb_ok (i := i) (F := F) (N := N') (nx := Nat.max n1 n2) (R := R) m3' hi
    exact ⟨_, by cases g <;> first | exact k1 | exact k2, r1, r2⟩
   ·rw [lookO_none (by rw [keysO_merge]; exact hk)] at hi
    refine ⟨ob, ?_, id, fun _ => Iff.rfl⟩
    obtain ⟨d1, hd1⟩ := d1
    obtain ⟨d2, hd2⟩ := d2
    cases g with
    | true =>
     show lookO i o1 = _
     rw [hd1, lookO_newK (by rw [← hd1]; exact fun hh => hk (List.mem_append.2 (.inl hh)))]
     exact hi
    | false =>
     show lookO i o2 = _
     rw [hd2, lookO_newK (by rw [← hd2]; exact fun hh => hk (List.mem_append.2 (.inr hh)))]
     exact hi
 ·refine ⟨N, merge_core h0 h hW hn u1 u2 (fun u x hu => by cases hu) fun i ob hi => ?_⟩
  rw [lookO_wipe] at hi
  cases hi
theorem Sub.merge (g : Bool) (W : List Nat) (s0 s1 s2 : St) : Sub s0 (mergeS g W s0 s1 s2) := by
 unfold mergeS
 unfold mergeS'
 split
 ·exact ⟨rfl, _, rfl⟩
 ·exact ⟨rfl, _, rfl⟩
end
end Go.Proofs.YtkknpeeccejppaaDoor
namespace Go.Proofs.YtkknpeeccejppaaDoor
open Go.RowKit
abbrev Cnd := Option Bool
def cval : Cnd → Bool
 | none => true
 | some b => b
def andO : Cnd → Cnd → Cnd
 | none, y => y
 | some a, none => some a
 | some a, some b => some (a && b)
def orO : Cnd → Cnd → Cnd
 | none, _ => none
 | some _, none => none
 | some a, some b => some (a || b)
def notO : Cnd → Cnd
 | none => some false
 | some a => some (!a)
def iteO (g : Bool) : Cnd → Cnd → Cnd
 | none, none => none
 | some a, none => some (!g || a)
 | none, some b => some (g || b)
 | some a, some b => some (bif g then a else b)
theorem cval_and (x y : Cnd) : cval (andO x y) = (cval x && cval y) := by cases x <;> cases y <;> simp [andO, cval]
theorem cval_or (x y : Cnd) : cval (orO x y) = (cval x || cval y) := by cases x <;> cases y <;> simp [orO, cval]
theorem cval_not (x : Cnd) : cval (notO x) = !(cval x) := by cases x <;> rfl
theorem cval_ite (g : Bool) (x y : Cnd) : cval (iteO g x y) = bif g then cval x else cval y := by cases x <;> cases y <;> cases g <;> simp [iteO, cval]
def cndP : Cnd → List Prop
 | none => []
 | some b => [b = true]
theorem cndP_ok {c : Cnd} (h : cval c = true) : ∀ q ∈ cndP c, q := fun q hq => by
 cases c with
 | none => cases hq
 | some b => obtain rfl := List.mem_singleton.1 hq; exact h
def dstAt (ops : List Oper) (j : Nat) : Option Tmp := match ops[j]? with
 | some o => o.dst
 | none => none
abbrev Outc := Cnd × Nat × St × List Prop
def onL : List Outc → (St → Prop) → Prop
 | [], _ => False
 | (c, _, s, _) :: r, K => (cval c = true ∧ K s) ∨ (cval c = false ∧ onL r K)
def needL : List Outc → Prop
 | [] => True
 | (c, _, _, ps) :: r => (cval c = true → ∀ p ∈ ps, p) ∧ needL r
def kindL : List Outc → Nat
 | [] => 0
 | (_, k, _, _) :: r => Nat.max k (kindL r)
def putE (s : St) (dst : Option Tmp) (f : Eff) : Option St := match dst with
 | some d => bif Nat.blt d s.n then some (St.put ⟨s.n, f.nx, s.t, f.o⟩ d f.x) else none
 | none => some ⟨s.n, f.nx, s.t, f.o⟩
def St.lit (s : St) (u : Nat) (b : Bool) : St := { s with t := (u, .v (.bool b)) :: s.t }
def quietE (E : Env) (s : St) (G : Guards) (o : Oper) : R2 := bif loudB o.op then none else valE E s G o
def doE (E : Env) (s : St) (G : Guards) (o : Oper) (c : Cnd) (ps : List Prop) : Option Outc := match opE E s G o with
 | some f => match putE s o.dst f with
  | some s' => some (c, f.k, s', ps ++ f.ps)
  | none => none
 | none => none
def skipE (s : St) (o : Oper) : Option St := match o.dst with
 | some d => bif Nat.blt d s.n then some (s.put d (.v undef)) else none
 | none => some s
def step0 (E : Env) (ops : List Oper) (s : St) (o : Oper) : Option (List Outc) :=
 match o.guard with
 | none => match doE E s [] o none [] with
  | some x => some [x]
  | none => none
 | some (j, b) => match dstAt ops j with
  | some u => match E.lit with
   | true => match s.raw [] (.tmp u) with
    | some (.bool c) => match beqB c b with
     | true => match doE E s (gset s 5 u b) o none [] with
      | some x => some [x]
      | none => none
     | false => match skipE s o with
      | some s' => some [(none, 0, s', [])]
      | none => none
    | _ => none
   | false => match quietE E s (gset s 5 u b) o with
    | some (x, ps) => match o.dst with
     | some d => bif Nat.blt d s.n then (bif Nat.beq d u then none else some [(none, 0, s.put d (.opt u b x), gimps (gprops s (gset s 5 u b) (gset s 5 u b)) ps)]) else none
     | none => none
    | none => match s.raw [] (.tmp u) with
     | some (.bool c) => match doE E (s.lit u b) (gset s 5 u b) o (some (bif b then c else !c)) [], skipE (s.lit u (!b)) o with
      | some x, some s' => some [x, (none, 0, s', [])]
      | _, _ => none
     | _ => none
  | none => none
section
variable {E : Env} {Z : Base} {F : Nat → Prop} {N : Nm} {s : St} {a : Act} {R : World}
theorem gok_nil (tm : Nat → Value) : GOk tm [] := fun _ _ h => by cases h
theorem Hv.isPlain {nx : Nat} {x : A} {v : Value} (h : Hv F N nx R x v) : x.plain = true := by cases h <;> rfl
theorem wanted_iff {ops : List Oper} {o : Oper} {j u : Nat} {b : Bool} (hg : o.guard = some (j, b)) (hu : dstAt ops j = some u) (a : Act) : Region.wanted o (yielded ops.toArray a.tmps) = true ↔ tmOf a u = .bool b := by
 unfold Region.wanted yielded tmOf
 rw [hg]
 have : (ops.toArray[j]?).bind (·.dst) = some u := by
  unfold dstAt at hu
  rw [List.getElem?_toArray]
  cases ho : ops[j]? with
  | none => rw [ho] at hu; cases hu
  | some o' => rw [ho] at hu; exact hu
 simp only [this, Option.bind_some]
 rw [Array.getD_eq_getD_getElem?]
 cases hv : a.tmps[u]? with
 | none => simp [undef]
 | some v =>
  cases v <;> simp
theorem wanted_none {o : Oper} (hg : o.guard = none) (y : Nat → Option Bool) : Region.wanted o y = true := by
 unfold Region.wanted
 rw [hg]
theorem Rel.lit (h : Rel Z F N s a R) {u : Nat} {b : Bool} (hu : tmOf a u = .bool b) : Rel Z F N (s.lit u b) a R :=
 ⟨h.defers, h.size, fun v x hv => by
  have hv' : (bif Nat.beq u v then some (A.v (.bool b)) else look v s.t) = some x := hv
  cases hb : Nat.beq u v with
  | true =>
   rw [hb] at hv'
   obtain rfl := Nat.eq_of_beq_eq_true hb
   cases hv'
   rw [hu]
   exact (HS_plain rfl).2 (.v _)
  | false => rw [hb] at hv'; exact h.slots v x hv', h.hp, h.st, h.tm⟩
theorem putE_ok (h : Rel Z F N s a R) {dst : Option Tmp} {f : Eff} {s' : St} (he : putE s dst f = some s') (hW : ∀ d, dst = some d → Z.W d) {v : Value} {R' : World} (hk : EK F N s.nx s.o R f v R') :
  ∃ F' N', Rel Z F' N' s' (a.put dst v) R' := by
 obtain ⟨F', N', h1, h2, h3, _⟩ := hk
 have hr := h.heap h2 h1
 unfold putE at he
 split at he
 ·rename_i d
  cases hd : Nat.blt d s.n with
  | false => rw [hd] at he; cases he
  | true =>
   rw [hd] at he
   cases he
   exact ⟨F', N', hr.put (Nat.le_of_ble_eq_true hd) (hW d rfl) v ((HS_plain h3.isPlain).2 h3)⟩
 ·cases he
  exact ⟨F', N', hr⟩
theorem skipE_ok (h : Rel Z F N s a R) {o : Oper} {s' : St} (he : skipE s o = some s') (hW : ∀ d, o.dst = some d → Z.W d) : Rel Z F N s' (a.put o.dst undef) R := by
 unfold skipE at he
 split at he
 ·rename_i d hd
  cases hb : Nat.blt d s.n with
  | false => rw [hb] at he; cases he
  | true =>
   rw [hb] at he
   cases he
   rw [hd]
   exact h.put (Nat.le_of_ble_eq_true hb) (hW d hd) undef ((HS_plain rfl).2 (.v _))
 ·rename_i hd
  cases he
  rw [hd]
  exact h
theorem doE_ok (ok : EnvOk E) (h : Rel Z F N s a R) {G : Guards} (hG : GOk (tmOf a) G) {o : Oper} {c c' : Cnd} {k : Nat} {s' : St} {ps qs : List Prop} (he : doE E s G o c qs = some (c', k, s', ps)) (hp : ∀ p ∈ ps, p) (hW : ∀ d, o.dst = some d → Z.W d) :
  c' = c ∧ UponV E.P (fun v R' => (k ≤ 1 → Below R.heap.size R R') ∧ ∃ F' N', Rel Z F' N' s' (a.put o.dst v) R') ((execOp a.eval o).run E.P R) := by
 unfold doE at he
 split at he <;> first | (cases he; done) | skip
 rename_i f hf
 split at he <;> first | (cases he; done) | skip
 rename_i s1 hs
 cases he
 refine ⟨rfl, uponV_mono (op_ok ok h hG hf fun p hm => hp p (List.mem_append.2 (.inr hm))) fun v R' hk => ⟨?_, putE_ok h hs hW hk⟩⟩
 obtain ⟨_, _, _, _, _, h4⟩ := hk
 exact h4
theorem bool_path {c b : Bool} (hcb : (bif b then c else !c) = true) : c = b := by cases b <;> cases c <;> first | rfl | cases hcb
theorem bool_path' {c b : Bool} (hcb : (bif b then c else !c) = false) : c = !b := by cases b <;> cases c <;> first | rfl | cases hcb
theorem step0_ok (ok : EnvOk E) (h : Rel Z F N s a R) {ops : List Oper} {o : Oper} {l : List Outc} (he : step0 E ops s o = some l) (hp : needL l) (hW : ∀ d, o.dst = some d → Z.W d) :
  (Region.wanted o (yielded ops.toArray a.tmps) = true ∧ UponV E.P (fun v R' => (kindL l ≤ 1 → Below R.heap.size R R') ∧ onL l fun s' => ∃ F' N', Rel Z F' N' s' (a.put o.dst v) R') ((execOp a.eval o).run E.P R)) ∨
  (Region.wanted o (yielded ops.toArray a.tmps) = false ∧ onL l fun s' => ∃ F' N', Rel Z F' N' s' (a.put o.dst undef) R) := by
 have one : ∀ {G : Guards} {x : Outc}, GOk (tmOf a) G → doE E s G o none [] = some x → l = [x] → UponV E.P (fun v R' => (kindL l ≤ 1 → Below R.heap.size R R') ∧ onL l fun s' => ∃ F' N', Rel Z F' N' s' (a.put o.dst v) R') ((execOp a.eval o).run E.P R) := fun {G x} hG hx hl => by
  obtain ⟨c, k, s', ps⟩ := x
  subst hl
  have hc : c = none := by
   unfold doE at hx
   split at hx <;> first | (cases hx; done) | skip
   split at hx <;> first | (cases hx; done) | skip
   cases hx; rfl
  subst hc
  obtain ⟨_, h2⟩ := doE_ok ok h hG hx (hp.1 rfl) hW
  exact uponV_mono h2 fun v R' ⟨h3, h4⟩ => ⟨fun hk => h3 (Nat.le_trans (Nat.le_max_left ..) hk), .inl ⟨rfl, h4⟩⟩
 unfold step0 at he
 split at he
 ·rename_i hg
  split at he <;> first | (cases he; done) | skip
  rename_i x hx
  cases he
  exact .inl ⟨wanted_none hg _, one (gok_nil _) hx rfl⟩
 ·rename_i j b hg
  split at he <;> first | (cases he; done) | skip
  rename_i u hu
  have wt := wanted_iff hg hu a
  have wf : tmOf a u ≠ .bool b → Region.wanted o (yielded ops.toArray a.tmps) = false := fun hn => by
   cases hw : Region.wanted o (yielded ops.toArray a.tmps) with
   | false => rfl
   | true => exact absurd (wt.1 hw) hn
  split at he
  ·split at he <;> first | (cases he; done) | skip
   rename_i c hc
   have hcu : tmOf a u = .bool c := raw_ok h (gok_nil _) hc
   split at he
   ·rename_i hb
    obtain rfl := beqB_eq hb
    split at he <;> first | (cases he; done) | skip
    rename_i x hx
    cases he
    exact .inl ⟨wt.2 hcu, one (gset_ok h 5 u c hcu) hx rfl⟩
   ·rename_i hb
    split at he <;> first | (cases he; done) | skip
    rename_i s' hs
    cases he
    refine .inr ⟨wf fun e => ?_, .inl ⟨rfl, F, N, skipE_ok h hs hW⟩⟩
    rw [hcu] at e
    cases e
    cases b <;> cases hb
  ·split at he
   ·rename_i x ps hq
    split at he <;> first | (cases he; done) | skip
    rename_i d hd
    cases hb : Nat.blt d s.n with
    | false => rw [hb] at he; cases he
    | true =>
     cases hdu : Nat.beq d u with
     | true => rw [hb, hdu] at he; cases he
     | false =>
      rw [hb, hdu] at he
      cases he
      have hne : u ≠ d := fun e => by subst e; simp at hdu
      have hdn := Nat.le_of_ble_eq_true hb
      unfold quietE at hq
      cases hl : loudB o.op with
      | true => rw [hl] at hq; cases hq
      | false =>
       rw [hl] at hq
       by_cases hw : tmOf a u = .bool b
       ·have hG := gset_ok h 5 u b hw
        have hps := gimps_ok (hp.1 rfl) (gprops_ok h hG (gset_mem h 5 u b hw))
        obtain ⟨v, h1, h2⟩ := val_ok ok h hG hq hps
        refine .inl ⟨wt.2 hw, ?_⟩
        have h3 := h2 R (Below.refl _ _)
        have fin : ∀ R', Below R.heap.size R R' → (kindL [((none : Cnd), 0, s.put d (.opt u b x), gimps (gprops s (gset s 5 u b) (gset s 5 u b)) ps)] ≤ 1 → Below R.heap.size R R') ∧ onL [((none : Cnd), 0, s.put d (.opt u b x), gimps (gprops s (gset s 5 u b) (gset s 5 u b)) ps)] fun s' => ∃ F' N', Rel Z F' N' s' (a.put o.dst v) R' := fun R' hR' =>
         ⟨fun _ => hR', .inl ⟨rfl, F, N, by
          rw [hd]
          refine ((h.put (x := .opt u b x) hdn (hW d hd) v ?_).grow hR')
          simp only [HS]
          exact ⟨fun _ => (HS_plain h1.isPlain).2 h1, fun hn => absurd (by rw [tm_put_ne _ hne]; exact hw) hn⟩⟩⟩
        generalize (execOp a.eval o).run E.P R = r at *
        cases r with
        | halt x w => exact h3.elim
        | ok n w =>
         cases n <;> simp only [Oper.quietUpon] at h3 <;> simp only [UponV]
         case value y =>
          obtain ⟨e1, e2⟩ := h3
          rw [e1, e2]
          exact fin R (Below.refl _ _)
         case skip =>
          obtain ⟨e1, e2⟩ := h3
          rw [e1, ← e2]
          exact fin R (Below.refl _ _)
         case enter f args =>
          obtain ⟨e1, hc⟩ := h3
          rw [e1]
          exact hc.mono fun e w'' ⟨he, hw''⟩ => ⟨v, he, fin _ hw''⟩
       ·refine .inr ⟨wf hw, .inl ⟨rfl, F, N, ?_⟩⟩
        rw [hd]
        refine h.put (x := .opt u b x) hdn (hW d hd) undef ?_
        simp only [HS]
        exact ⟨fun hn => absurd (by rw [tm_put_ne _ hne] at hn; exact hn) hw, fun _ => trivial⟩
   ·split at he <;> first | (cases he; done) | skip
    rename_i c hc
    have hcu : tmOf a u = .bool c := raw_ok h (gok_nil _) hc
    split at he <;> first | (cases he; done) | skip
    rename_i x s' hx hs
    obtain ⟨cx, k, sx, ps⟩ := x
    cases he
    cases hcb : (bif b then c else !c) with
    | true =>
     have e1 := bool_path hcb
     subst e1
     have hcx : cx = some (bif c then c else !c) := by
      unfold doE at hx
      split at hx <;> first | (cases hx; done) | skip
      split at hx <;> first | (cases hx; done) | skip
      cases hx; rfl
     have hcv : cval cx = true := by rw [hcx]; exact hcb
     obtain ⟨_, h2⟩ := doE_ok ok (h.lit hcu) (gset_ok h 5 u c hcu) hx (hp.1 hcv) hW
     exact .inl ⟨wt.2 hcu, uponV_mono h2 fun v R' ⟨h3, h4⟩ => ⟨fun hk => h3 (Nat.le_trans (Nat.le_max_left ..) hk), .inl ⟨hcv, h4⟩⟩⟩
    | false =>
     have e1 := bool_path' hcb
     have hcx : cx = some (bif b then c else !c) := by
      unfold doE at hx
      split at hx <;> first | (cases hx; done) | skip
      split at hx <;> first | (cases hx; done) | skip
      cases hx; rfl
     have hcv : cval cx = false := by rw [hcx]; exact hcb
     refine .inr ⟨wf fun e => ?_, .inr ⟨hcv, .inl ⟨rfl, F, N, skipE_ok (h.lit (by rw [hcu, e1])) hs hW⟩⟩⟩
     rw [hcu, e1] at e
     cases b <;> cases e
end
def rowsIn (o : Objs) : Nat → A → List Nat
 | 0, _ => []
 | d + 1, x => match x with
  | .sq i => (match lookO i o with
   | some (.arr _ _ (.lst cs)) => cs.flatMap fun l => l.flatMap (rowsIn o d)
   | _ => []) ++ [i]
  | .vw i _ _ _ _ => (match lookO i o with
   | some (.arr _ _ (.lst cs)) => cs.flatMap fun l => l.flatMap (rowsIn o d)
   | _ => []) ++ [i]
  | .dq i => [i]
  | .iv i _ => [i]
  | .vr i _ _ _ => [i]
  | .agg xs => xs.flatMap (rowsIn o d)
  | .tup xs => xs.flatMap (rowsIn o d)
  | _ => []
def opV (s : St) (x : Operand) : A := match s.ev [] x with
 | some z => z
 | none => match x with
  | .tmp t => match s.get t with
   | some (.opt _ _ z) => z
   | _ => .dead
  | _ => .dead
def candE (s : St) (o : Oper) : List Nat := match o.op with
 | .call { callee := .value _, args, .. } => args.toList.flatMap fun x => rowsIn s.o 4 (opV s x)
 | .call { callee := .builtin .append, args, .. } => match args.toList with
  | [_, y] => match opV s y with
   | .sq i => (rowsIn s.o 4 (.sq i)).filter fun k => !Nat.beq k i
   | y' => rowsIn s.o 4 y'
  | _ => []
 | .store _ _ v => rowsIn s.o 4 (opV s v)
 | .indexAddr _ x _ => match opV s x with
  | .sq i => bif longR s.o i then [i] else []
  | _ => []
 | _ => []
def freezeL (E : Env) : List Nat → St → St × List Prop
 | [], s => (s, [])
 | i :: r, s => match freezeS E i s with
  | some (s', ps) => match freezeL E r s' with
   | (s'', qs) => (s'', ps ++ qs)
  | none => freezeL E r s
def addN (ps : List Prop) : List Outc → List Outc
 | [] => []
 | (c, k, s, qs) :: r => (c, k, s, ps ++ qs) :: addN ps r
def hasNone : List Outc → Bool
 | [] => false
 | (none, _, _, _) :: _ => true
 | _ :: r => hasNone r
def deepIn (o : Objs) : List Nat → Bool
 | [] => false
 | i :: r => match lookO i o with
  | some (.deep _ _ _) => true
  | _ => deepIn o r
def lendR (s : St) (o : Oper) (ps : List Prop) : List Outc → Option (List Outc)
 | [(none, k, s1, qs)] => match o.guard, o.dst with
  | none, some d => match s1.get d with
   | some (.v x) => bif Nat.ble k 1 && Nat.blt d s.n then some [(none, k, s.put d (.v x), ps ++ qs)] else none
   | _ => none
  | _, _ => none
 | _ => none
def lendF (s : St) (o : Oper) : Bool := match o.op with
 | .call { callee := .value f, .. } => (match calleeE s [] f with
  | some (g, _, _) => Nat.beq g 28
  | none => false)
 | _ => false
def lendE (s : St) (o : Oper) (is : List Nat) (ps : List Prop) (l : List Outc) : Option (List Outc) := bif deepIn s.o is || lendF s o then lendR s o ps l else none
def stepE (E : Env) (ops : List Oper) (s : St) (o : Oper) : Option (List Outc) := match step0 E ops s o with
 | some l => some l
 | none => match candE s o with
  | [] => none
  | i :: r => match freezeL E (i :: r) s with
   | (s', ps) => match step0 E ops s' o with
    | some l => bif hasNone l then (match lendE s o (i :: r) ps l with
     | some l' => some l'
     | none => some (addN ps l)) else none
    | none => none
theorem lendE_is {s : St} {o : Oper} {is : List Nat} {ps : List Prop} {l l' : List Outc} (h : lendE s o is ps l = some l') : ∃ k s1 qs d x, l = [(none, k, s1, qs)] ∧ o.guard = none ∧ o.dst = some d ∧ s1.get d = some (.v x) ∧ k ≤ 1 ∧ d < s.n ∧ l' = [(none, k, s.put d (.v x), ps ++ qs)] := by
 unfold lendE at h
 cases hd : deepIn s.o is || lendF s o with
 | false => rw [hd] at h; cases h
 | true =>
  rw [hd, cond_true] at h
  unfold lendR at h
  split at h <;> first | (cases h; done) | skip
  rename_i k s1 qs
  split at h <;> first | (cases h; done) | skip
  rename_i d hg hds
  split at h <;> first | (cases h; done) | skip
  rename_i x hx
  cases hb : Nat.ble k 1 && Nat.blt d s.n with
  | false => rw [hb] at h; cases h
  | true =>
   rw [hb] at h
   cases h
   rw [Bool.and_eq_true] at hb
   exact ⟨k, s1, qs, d, x, rfl, hg, hds, hx, Nat.le_of_ble_eq_true hb.1, Nat.le_of_ble_eq_true hb.2, rfl⟩
section
variable {E : Env} {Z : Base} {F : Nat → Prop} {N : Nm} {s : St} {a : Act} {R : World}
theorem freezeL_ok : ∀ {l : List Nat} {s s' : St} {ps : List Prop} {F : Nat → Prop}, Rel Z F N s a R → freezeL E l s = (s', ps) → (∀ p ∈ ps, p) → ∃ F', Rel Z F' N s' a R
 | [], s, s', ps, F, h, he, _ => by cases he; exact ⟨F, h⟩
 | i :: r, s, s', ps, F, h, he, hp => by
  unfold freezeL at he
  split at he
  ·rename_i s1 ps1 h1
   generalize h2 : freezeL E r s1 = x at he
   obtain ⟨s2, qs⟩ := x
   cases he
   obtain ⟨F1, g1⟩ := freeze_ok h h1 fun p hm => hp p (List.mem_append.2 (.inl hm))
   exact freezeL_ok g1 h2 fun p hm => hp p (List.mem_append.2 (.inr hm))
  ·exact freezeL_ok h he hp
theorem addN_onL {K : St → Prop} {ps : List Prop} : ∀ {l : List Outc}, onL l K → onL (addN ps l) K
 | [], h => h
 | _ :: _, h => h.imp id fun ⟨a, b⟩ => ⟨a, addN_onL b⟩
theorem addN_kind {ps : List Prop} : ∀ {l : List Outc}, kindL (addN ps l) = kindL l
 | [] => rfl
 | (c, k, s, qs) :: r => by
  show Nat.max k (kindL (addN ps r)) = Nat.max k (kindL r)
  rw [addN_kind]
theorem addN_need {ps : List Prop} : ∀ {l : List Outc}, needL (addN ps l) → needL l
 | [], h => h
 | (_, _, _, _) :: r, ⟨h1, h2⟩ => ⟨fun hc p hm => h1 hc p (List.mem_append.2 (.inr hm)), addN_need (l := r) h2⟩
theorem addN_none {ps : List Prop} : ∀ {l : List Outc}, hasNone l = true → needL (addN ps l) → ∀ p ∈ ps, p
 | [], h, _ => by cases h
 | (none, k, s, qs) :: r, _, ⟨h1, _⟩ => fun p hm => h1 rfl p (List.mem_append.2 (.inl hm))
 | (some _, k, s, qs) :: r, h, ⟨_, h2⟩ => addN_none (l := r) h h2
theorem stepE_ok (ok : EnvOk E) (h : Rel Z F N s a R) {ops : List Oper} {o : Oper} {l : List Outc} (he : stepE E ops s o = some l) (hp : needL l) (hW : ∀ d, o.dst = some d → Z.W d) :
  (Region.wanted o (yielded ops.toArray a.tmps) = true ∧ UponV E.P (fun v R' => (kindL l ≤ 1 → Below R.heap.size R R') ∧ onL l fun s' => ∃ F' N', Rel Z F' N' s' (a.put o.dst v) R') ((execOp a.eval o).run E.P R)) ∨
  (Region.wanted o (yielded ops.toArray a.tmps) = false ∧ onL l fun s' => ∃ F' N', Rel Z F' N' s' (a.put o.dst undef) R) := by
 unfold stepE at he
 split at he
 ·rename_i l' hl
  cases he
  exact step0_ok ok h hl hp hW
 ·split at he <;> first | (cases he; done) | skip
  rename_i i r hc
  generalize hf : freezeL E (i :: r) s = x at he
  obtain ⟨s', ps⟩ := x
  simp only at he
  split at he <;> first | (cases he; done) | skip
  rename_i l' hl
  cases hn : hasNone l' with
  | false => rw [hn] at he; cases he
  | true =>
   rw [hn, cond_true] at he
   cases hle : lendE s o (i :: r) ps l' with
   | some l2 =>
    rw [hle] at he
    cases he
    obtain ⟨k, s1, qs, d, x, rfl, hg, hds, hx, hk, hdn, rfl⟩ := lendE_is hle
    obtain ⟨F', h'⟩ := freezeL_ok h hf fun p hm => hp.1 rfl p (List.mem_append.2 (.inl hm))
    rcases step0_ok ok h' hl ⟨fun _ p hm => hp.1 rfl p (List.mem_append.2 (.inr hm)), hp.2⟩ hW with ⟨h1, h2⟩ | ⟨h1, _⟩
    ·refine .inl ⟨h1, uponV_mono h2 fun v R' ⟨h3, h4⟩ => ?_⟩
     have hB : Below R.heap.size R R' := h3 (Nat.max_le.2 ⟨hk, Nat.zero_le _⟩)
     refine ⟨fun _ => hB, .inl ⟨rfl, F, N, ?_⟩⟩
     rcases h4 with ⟨_, F1, N1, hr⟩ | h4
     ·have e := hr.slots d (.v x) hx
      rw [hds, tm_put_same v (by rw [h.size]; exact hdn)] at e
      cases (HS_plain rfl).1 e
      rw [hds]
      exact (h.grow hB).put hdn (hW d hds) _ ((HS_plain rfl).2 (.v _))
     ·cases h4.1
    ·rw [wanted_none hg] at h1
     cases h1
   | none =>
   rw [hle] at he
   cases he
   obtain ⟨F', h'⟩ := freezeL_ok h hf (addN_none hn hp)
   rcases step0_ok ok h' hl (addN_need hp) hW with ⟨h1, h2⟩ | ⟨h1, h2⟩
   ·exact .inl ⟨h1, uponV_mono h2 fun v R' ⟨h3, h4⟩ => ⟨fun hk => h3 (by rw [addN_kind] at hk; exact hk), addN_onL h4⟩⟩
   ·exact .inr ⟨h1, addN_onL h2⟩
end
def qput (s : St) (dst : Option Tmp) (x : A) (ps : List Prop) : Option (St × List Prop) := match dst with
 | some d => bif Nat.blt d s.n then some (s.put d x, ps) else none
 | none => some (s, ps)
def qstep (E : Env) (ops : List Oper) (s : St) (o : Oper) : Option (St × List Prop) :=
 match o.guard with
 | none => match quietE E s [] o with
  | some (x, ps) => qput s o.dst x ps
  | none => none
 | some (j, b) => match dstAt ops j with
  | some u => match E.lit with
   | true => match s.raw [] (.tmp u) with
    | some (.bool c) => match beqB c b with
     | true => match quietE E s (gset s 5 u b) o with
      | some (x, ps) => qput s o.dst x ps
      | none => none
     | false => qput s o.dst (.v undef) []
    | _ => none
   | false => match quietE E s (gset s 5 u b) o with
    | some (x, ps) => match o.dst with
     | some d => bif Nat.blt d s.n then (bif Nat.beq d u then none else some (s.put d (.opt u b x), gimps (gprops s (gset s 5 u b) (gset s 5 u b)) ps)) else none
     | none => none
    | none => none
  | none => none
def Quiet (P : Program) (ops : List Oper) (o : Oper) (a : Act) (R : World) (v : Value) : Prop :=
 (Region.wanted o (yielded ops.toArray a.tmps) = true ∧ ∀ w', Below R.heap.size R w' → Oper.quietUpon P (fun w'' => Below w'.heap.size w' w'') w' v ((execOp a.eval o).run P w')) ∨
 (Region.wanted o (yielded ops.toArray a.tmps) = false ∧ v = undef)
section
variable {E : Env} {Z : Base} {F : Nat → Prop} {N : Nm} {s : St} {a : Act} {R : World}
theorem qput_ok (h : Rel Z F N s a R) {dst : Option Tmp} {x : A} {ps qs : List Prop} {s' : St} (he : qput s dst x ps = some (s', qs)) (hW : ∀ d, dst = some d → Z.W d) {v : Value} (hv : Hv F N s.nx R x v) : qs = ps ∧ Rel Z F N s' (a.put dst v) R := by
 unfold qput at he
 split at he
 ·rename_i d
  cases hb : Nat.blt d s.n with
  | false => rw [hb] at he; cases he
  | true =>
   rw [hb] at he
   cases he
   exact ⟨rfl, h.put (Nat.le_of_ble_eq_true hb) (hW d rfl) v ((HS_plain hv.isPlain).2 hv)⟩
 ·cases he
  exact ⟨rfl, h⟩
theorem qstep_ok (ok : EnvOk E) (h : Rel Z F N s a R) {ops : List Oper} {o : Oper} {s' : St} {ps : List Prop} (he : qstep E ops s o = some (s', ps)) (hp : ∀ p ∈ ps, p) (hW : ∀ d, o.dst = some d → Z.W d) :
  ∃ v, Rel Z F N s' (a.put o.dst v) R ∧ Quiet E.P ops o a R v := by
 have go : ∀ {G : Guards} {x : A} {qs : List Prop}, GOk (tmOf a) G → quietE E s G o = some (x, qs) → (∀ p ∈ qs, p) → ∃ v, Hv F N s.nx R x v ∧ ∀ R', Below R.heap.size R R' → Oper.quietUpon E.P (fun R'' => Below R'.heap.size R' R'') R' v ((execOp a.eval o).run E.P R') := fun {G x qs} hG hq hqs => by
  unfold quietE at hq
  cases hl : loudB o.op with
  | true => rw [hl] at hq; cases hq
  | false => rw [hl] at hq; exact val_ok ok h hG hq hqs
 unfold qstep at he
 split at he
 ·rename_i hg
  split at he <;> first | (cases he; done) | skip
  rename_i x qs hq
  have hqs : qs = ps := by
   unfold qput at he
   split at he
   ·rename_i d _
    cases hb : Nat.blt d s.n with
    | false => rw [hb] at he; cases he
    | true => rw [hb] at he; cases he; rfl
   ·cases he; rfl
  subst hqs
  obtain ⟨v, h1, h2⟩ := go (gok_nil _) hq hp
  exact ⟨v, (qput_ok h he hW h1).2, .inl ⟨wanted_none hg _, h2⟩⟩
 ·rename_i j b hg
  split at he <;> first | (cases he; done) | skip
  rename_i u hu
  have wt := wanted_iff hg hu a
  have wf : tmOf a u ≠ .bool b → Region.wanted o (yielded ops.toArray a.tmps) = false := fun hn => by
   cases hw : Region.wanted o (yielded ops.toArray a.tmps) with
   | false => rfl
   | true => exact absurd (wt.1 hw) hn
  split at he
  ·split at he <;> first | (cases he; done) | skip
   rename_i c hc
   have hcu : tmOf a u = .bool c := raw_ok h (gok_nil _) hc
   split at he
   ·rename_i hb
    have hcb := beqB_eq hb
    rw [hcb] at hcu
    split at he <;> first | (cases he; done) | skip
    rename_i x qs hq
    have hqs : qs = ps := by
     unfold qput at he
     split at he
     ·rename_i d _
      cases hb : Nat.blt d s.n with
      | false => rw [hb] at he; cases he
      | true => rw [hb] at he; cases he; rfl
     ·cases he; rfl
    subst hqs
    obtain ⟨v, h1, h2⟩ := go (gset_ok h 5 u b hcu) hq hp
    exact ⟨v, (qput_ok h he hW h1).2, .inl ⟨wt.2 hcu, h2⟩⟩
   ·rename_i hb
    refine ⟨undef, (qput_ok h he hW (.v _)).2, .inr ⟨wf fun e => ?_, rfl⟩⟩
    rw [hcu] at e
    cases e
    cases b <;> cases hb
  ·split at he <;> first | (cases he; done) | skip
   rename_i x qs hq
   split at he <;> first | (cases he; done) | skip
   rename_i d hd
   cases hb : Nat.blt d s.n with
   | false => rw [hb] at he; cases he
   | true =>
    cases hdu : Nat.beq d u with
    | true => rw [hb, hdu] at he; cases he
    | false =>
     rw [hb, hdu] at he
     cases he
     have hne : u ≠ d := fun e => by subst e; simp at hdu
     have hdn := Nat.le_of_ble_eq_true hb
     by_cases hw : tmOf a u = .bool b
     ·have hG := gset_ok h 5 u b hw
      obtain ⟨v, h1, h2⟩ := go hG hq (gimps_ok hp (gprops_ok h hG (gset_mem h 5 u b hw)))
      refine ⟨v, ?_, .inl ⟨wt.2 hw, h2⟩⟩
      rw [hd]
      refine h.put (x := .opt u b x) hdn (hW d hd) v ?_
      simp only [HS]
      exact ⟨fun _ => (HS_plain h1.isPlain).2 h1, fun hn => absurd (by rw [tm_put_ne _ hne]; exact hw) hn⟩
     ·refine ⟨undef, ?_, .inr ⟨wf hw, rfl⟩⟩
      rw [hd]
      refine h.put (x := .opt u b x) hdn (hW d hd) undef ?_
      simp only [HS]
      exact ⟨fun hn => absurd (by rw [tm_put_ne _ hne] at hn; exact hn) hw, fun _ => trivial⟩
end
abbrev Path := Cnd × St
def bump : List Outc → List Outc
 | [] => []
 | (c, k, s, ps) :: r => (c, Nat.max 1 k, s, ps) :: bump r
def skipN (ops : List Oper) (s : St) (o : Oper) : Option (St × List Prop) := match o.guard with
 | some (j, b) => match dstAt ops j with
  | some u => match s.raw [] (.tmp u) with
   | some (.bool c) => match skipE s o with
    | some s' => some (s', [c = !b])
    | none => none
   | some (.tuple _) => match skipE s o with
    | some s' => some (s', [])
    | none => none
   | _ => none
  | none => none
 | none => none
def pathP (E : Env) (ops : List Oper) (s : St) (o : Oper) : Option (List Outc) := match qstep E ops s o with
 | some (s', ps) => some [(none, 0, s', ps)]
 | none => match stepE E ops s o with
  | some (x :: r) => some (bump (x :: r))
  | _ => match skipN ops s o with
   | some (s', ps) => some [(none, 0, s', ps)]
   | none => none
def St.open1 (s : St) (u u2 : Nat) (b2 : Bool) (y : A) : St := { s with t := (u, y) :: (u2, .v (.bool b2)) :: s.t }
def andL (c : Cnd) : List Outc → List Outc
 | [] => []
 | (d, k, s, ps) :: r => (andO c d, k, s, ps) :: andL c r
def pathE (E : Env) (ops : List Oper) (s : St) (o : Oper) : Option (List Outc) := match pathP E ops s o with
 | some l => some l
 | none => match o.guard with
  | some (j, _) => match dstAt ops j with
   | some u => match s.get u with
    | some (.opt u2 b2 y) => match s.raw [] (.tmp u2) with
     | some (.bool c) => match pathP E ops (s.open1 u u2 b2 y) o, pathP E ops (s.open1 u u2 (!b2) (.v undef)) o with
      | some l1, some l2 => some (andL (some (bif b2 then c else !c)) l1 ++ l2)
      | _, _ => none
     | _ => none
    | _ => none
   | none => none
  | none => none
def condC (c : Cnd) : List Outc → List Path
 | [] => []
 | (d, _, s, _) :: r => (andO c d, s) :: condC c r
def needC (c : Cnd) : List Outc → List Prop
 | [] => []
 | (d, _, _, ps) :: r => gimps (cndP (andO c d)) ps ++ needC c r
def evWays (E : Env) (ops : List Oper) (o : Oper) : List Path → Option (Nat × List Path × List Prop)
 | [] => some (0, [], [])
 | (c, s) :: r => match pathE E ops s o with
  | some l => match evWays E ops o r with
   | some (k, r', qs) => some (Nat.max (kindL l) k, condC c l ++ r', needC c l ++ qs)
   | none => none
  | none => none
def onP : List Path → (St → Prop) → Prop
 | [], _ => False
 | (c, s) :: r, K => (cval c = true ∧ K s) ∨ (cval c = false ∧ onP r K)
theorem onP_mono {K K' : St → Prop} (hk : ∀ s, K s → K' s) : ∀ {l : List Path}, onP l K → onP l K'
 | [], h => h
 | _ :: _, h => h.imp (fun ⟨a, b⟩ => ⟨a, hk _ b⟩) (fun ⟨a, b⟩ => ⟨a, onP_mono hk b⟩)
theorem onP_condC {c : Cnd} {K : St → Prop} {r' : List Path} (hc : cval c = true) : ∀ {l : List Outc}, onL l K → onP (condC c l ++ r') K
 | [], h => h.elim
 | (d, k, s, ps) :: r, h => by
  rcases h with ⟨h1, h2⟩ | ⟨h1, h2⟩
  ·exact .inl ⟨by rw [cval_and, hc, h1]; rfl, h2⟩
  ·exact .inr ⟨by rw [cval_and, hc, h1]; rfl, onP_condC hc h2⟩
theorem onP_skipC {c : Cnd} {K : St → Prop} {r' : List Path} (hc : cval c = false) (h : onP r' K) : ∀ {l : List Outc}, onP (condC c l ++ r') K
 | [] => h
 | (d, k, s, ps) :: r => .inr ⟨by rw [cval_and, hc]; rfl, onP_skipC hc h⟩
theorem needC_ok {c : Cnd} (hc : cval c = true) : ∀ {l : List Outc}, (∀ p ∈ needC c l, p) → needL l
 | [], _ => trivial
 | (d, k, s, ps) :: r, h => by
  refine ⟨fun hd => gimps_ok (fun p hm => h p (List.mem_append.2 (.inl hm))) (cndP_ok (by rw [cval_and, hc, hd]; rfl)), needC_ok hc fun p hm => h p (List.mem_append.2 (.inr hm))⟩
theorem bump_onL {K : St → Prop} : ∀ {l : List Outc}, onL l K → onL (bump l) K
 | [], h => h
 | _ :: _, h => h.imp id fun ⟨a, b⟩ => ⟨a, bump_onL b⟩
theorem bump_need : ∀ {l : List Outc}, needL (bump l) → needL l
 | [], h => h
 | _ :: r, ⟨h1, h2⟩ => ⟨h1, bump_need (l := r) h2⟩
theorem bump_kind : ∀ {l : List Outc}, kindL l ≤ kindL (bump l)
 | [] => Nat.le_refl _
 | (c, k, s, ps) :: r => by
  show Nat.max k (kindL r) ≤ Nat.max (Nat.max 1 k) (kindL (bump r))
  have := bump_kind (l := r)
  exact Nat.max_le.2 ⟨Nat.le_trans (Nat.le_max_right ..) (Nat.le_max_left ..), Nat.le_trans this (Nat.le_max_right ..)⟩
section
variable {E : Env} {Z : Base} {F : Nat → Prop} {N : Nm} {s : St} {a : Act} {R : World}
theorem quiet_upon {P : Program} {o : Oper} {v : Value} {K : Value → World → Prop} (h : Oper.quietUpon P (fun w'' => Below R.heap.size R w'') R v ((execOp a.eval o).run P R)) (hk : ∀ R', Below R.heap.size R R' → K v R') : UponV P K ((execOp a.eval o).run P R) := by
 have hr := Below.refl R.heap.size R
 generalize (execOp a.eval o).run P R = r at *
 cases r with
 | halt x w => exact h.elim
 | ok n w =>
  cases n <;> simp only [Oper.quietUpon] at h <;> simp only [UponV]
  case value y =>
   obtain ⟨e1, e2⟩ := h
   rw [e1, e2]
   exact hk _ hr
  case skip =>
   obtain ⟨e1, e2⟩ := h
   rw [e1, ← e2]
   exact hk _ hr
  case enter f args =>
   obtain ⟨e1, hc⟩ := h
   rw [e1]
   exact hc.mono fun e w'' ⟨he, hw''⟩ => ⟨v, he, hk _ hw''⟩
theorem skipN_ok (h : Rel Z F N s a R) {ops : List Oper} {o : Oper} {s' : St} {ps : List Prop} (he : skipN ops s o = some (s', ps)) (hp : ∀ p ∈ ps, p) (hW : ∀ d, o.dst = some d → Z.W d) :
  Region.wanted o (yielded ops.toArray a.tmps) = false ∧ Rel Z F N s' (a.put o.dst undef) R := by
 unfold skipN at he
 split at he <;> first | (cases he; done) | skip
 rename_i j b hg
 split at he <;> first | (cases he; done) | skip
 rename_i u hu
 have wt := wanted_iff hg hu a
 split at he <;> first | (cases he; done) | skip
 ·rename_i c hc
  split at he <;> first | (cases he; done) | skip
  rename_i s1 hs
  cases he
  have hcb : c = !b := hp _ (List.mem_singleton.2 rfl)
  have hcu : tmOf a u = .bool c := raw_ok h (gok_nil _) hc
  refine ⟨?_, skipE_ok h hs hW⟩
  cases hw : Region.wanted o (yielded ops.toArray a.tmps) with
  | false => rfl
  | true =>
   have := wt.1 hw
   rw [hcu, hcb] at this
   cases b <;> cases this
 ·rename_i xs hc
  split at he <;> first | (cases he; done) | skip
  rename_i s1 hs
  cases he
  have hcu : tmOf a u = .tuple xs := raw_ok h (gok_nil _) hc
  refine ⟨?_, skipE_ok h hs hW⟩
  cases hw : Region.wanted o (yielded ops.toArray a.tmps) with
  | false => rfl
  | true =>
   have := wt.1 hw
   rw [hcu] at this
   cases this
theorem pathP_ok (ok : EnvOk E) (h : Rel Z F N s a R) {ops : List Oper} {o : Oper} {l : List Outc} (he : pathP E ops s o = some l) (hp : needL l) (hW : ∀ d, o.dst = some d → Z.W d) :
  (Region.wanted o (yielded ops.toArray a.tmps) = true ∧ UponV E.P (fun v R' => (kindL l ≤ 1 → Below R.heap.size R R') ∧ onL l fun s' => ∃ F' N', Rel Z F' N' s' (a.put o.dst v) R') ((execOp a.eval o).run E.P R)) ∨
  (Region.wanted o (yielded ops.toArray a.tmps) = false ∧ onL l fun s' => ∃ F' N', Rel Z F' N' s' (a.put o.dst undef) R) := by
 unfold pathP at he
 split at he
 ·rename_i s' ps hq
  cases he
  obtain ⟨v, h1, h2⟩ := qstep_ok ok h hq (hp.1 rfl) hW
  rcases h2 with ⟨h2, h3⟩ | ⟨h2, rfl⟩
  ·exact .inl ⟨h2, quiet_upon (h3 R (Below.refl _ _)) fun R' hb => ⟨fun _ => hb, .inl ⟨rfl, F, N, h1.grow hb⟩⟩⟩
  ·exact .inr ⟨h2, .inl ⟨rfl, F, N, h1⟩⟩
 ·split at he
  ·rename_i x r hs
   cases he
   rcases stepE_ok ok h hs (bump_need hp) hW with ⟨h1, h2⟩ | ⟨h1, h2⟩
   ·exact .inl ⟨h1, uponV_mono h2 fun v R' ⟨h3, h4⟩ => ⟨fun hk => h3 (Nat.le_trans bump_kind hk), bump_onL h4⟩⟩
   ·exact .inr ⟨h1, bump_onL h2⟩
  ·split at he <;> first | (cases he; done) | skip
   rename_i s' ps hs
   cases he
   obtain ⟨h1, h2⟩ := skipN_ok h hs (hp.1 rfl) hW
   exact .inr ⟨h1, .inl ⟨rfl, F, N, h2⟩⟩
theorem pathP_quiet (ok : EnvOk E) (h : Rel Z F N s a R) {ops : List Oper} {o : Oper} {l : List Outc} (he : pathP E ops s o = some l) (hk : kindL l = 0) (hp : needL l) (hW : ∀ d, o.dst = some d → Z.W d) :
  ∃ v, (onL l fun s' => ∃ F' N', Rel Z F' N' s' (a.put o.dst v) R) ∧ Quiet E.P ops o a R v := by
 unfold pathP at he
 split at he
 ·rename_i s' ps hq
  cases he
  obtain ⟨v, h1, h2⟩ := qstep_ok ok h hq (hp.1 rfl) hW
  exact ⟨v, .inl ⟨rfl, F, N, h1⟩, h2⟩
 ·split at he
  ·rename_i x r hs
   cases he
   obtain ⟨c, k, s', ps⟩ := x
   have hk' : Nat.max (Nat.max 1 k) (kindL (bump r)) = 0 := hk
   exact absurd (Nat.le_trans (Nat.le_trans (Nat.le_max_left 1 k) (Nat.le_max_left (Nat.max 1 k) (kindL (bump r)))) (Nat.le_of_eq hk')) (by decide)
  ·split at he <;> first | (cases he; done) | skip
   rename_i s' ps hs
   cases he
   obtain ⟨h1, h2⟩ := skipN_ok h hs (hp.1 rfl) hW
   exact ⟨undef, .inl ⟨rfl, F, N, h2⟩, .inr ⟨h1, rfl⟩⟩
theorem onL_and_true {c : Cnd} {K : St → Prop} {r : List Outc} (hc : cval c = true) : ∀ {l : List Outc}, onL l K → onL (andL c l ++ r) K
 | [], h => h.elim
 | (d, k, s, ps) :: _, h => by
  rcases h with ⟨h1, h2⟩ | ⟨h1, h2⟩
  ·exact .inl ⟨by rw [cval_and, hc, h1]; rfl, h2⟩
  ·exact .inr ⟨by rw [cval_and, hc, h1]; rfl, onL_and_true hc h2⟩
theorem onL_and_false {c : Cnd} {K : St → Prop} {r : List Outc} (hc : cval c = false) (h : onL r K) : ∀ {l : List Outc}, onL (andL c l ++ r) K
 | [] => h
 | (d, k, s, ps) :: _ => .inr ⟨by rw [cval_and, hc]; rfl, onL_and_false hc h⟩
theorem needL_and {c : Cnd} {r : List Outc} : ∀ {l : List Outc}, needL (andL c l ++ r) → (cval c = true → needL l) ∧ needL r
 | [], h => ⟨fun _ => trivial, h⟩
 | (d, k, s, ps) :: _, ⟨h1, h2⟩ => ⟨fun hc => ⟨fun hd => h1 (by rw [cval_and, hc, hd]; rfl), (needL_and h2).1 hc⟩, (needL_and h2).2⟩
theorem kindL_and {c : Cnd} {r : List Outc} : ∀ {l : List Outc}, kindL (andL c l ++ r) = Nat.max (kindL l) (kindL r)
 | [] => by show kindL r = Nat.max 0 (kindL r); exact (Nat.max_eq_right (Nat.zero_le _)).symm
 | (d, k, s, ps) :: l => by
  show Nat.max k (kindL (andL c l ++ r)) = Nat.max (Nat.max k (kindL l)) (kindL r)
  rw [kindL_and]
  exact (Nat.max_assoc _ _ _).symm
theorem open_rel (h : Rel Z F N s a R) {u u2 : Nat} {b2 : Bool} {y : A} (hu : HS F N s.nx R (tmOf a) y (tmOf a u)) (hu2 : tmOf a u2 = .bool b2) : Rel Z F N (s.open1 u u2 b2 y) a R :=
 ⟨h.defers, h.size, fun v x hv => by
  have hv' : (bif Nat.beq u v then some y else bif Nat.beq u2 v then some (A.v (.bool b2)) else look v s.t) = some x := hv
  cases hb : Nat.beq u v with
  | true =>
   rw [hb] at hv'
   obtain rfl := Nat.eq_of_beq_eq_true hb
   cases hv'
   exact hu
  | false =>
   rw [hb] at hv'
   cases hb2 : Nat.beq u2 v with
   | true =>
    rw [hb2] at hv'
    obtain rfl := Nat.eq_of_beq_eq_true hb2
    cases hv'
    rw [hu2]
    exact (HS_plain rfl).2 (.v _)
   | false => rw [hb2] at hv'; exact h.slots v x hv', h.hp, h.st, h.tm⟩
theorem open_cases (h : Rel Z F N s a R) {u u2 : Nat} {b2 c : Bool} {y : A} (hg : s.get u = some (.opt u2 b2 y)) (hc : s.raw [] (.tmp u2) = some (.bool c)) :
  (cval (some (bif b2 then c else !c)) = true ∧ Rel Z F N (s.open1 u u2 b2 y) a R) ∨ (cval (some (bif b2 then c else !c)) = false ∧ Rel Z F N (s.open1 u u2 (!b2) (.v undef)) a R) := by
 have hcu : tmOf a u2 = .bool c := raw_ok h (gok_nil _) hc
 have hs := h.slots u _ hg
 simp only [HS] at hs
 cases hcb : (bif b2 then c else !c) with
 | true =>
  have e := bool_path hcb
  subst e
  exact .inl ⟨rfl, open_rel h (hs.1 hcu) hcu⟩
 | false =>
  have e := bool_path' hcb
  refine .inr ⟨rfl, open_rel h ?_ (by rw [hcu, e])⟩
  rw [hs.2 (by rw [hcu, e]; cases b2 <;> simp)]
  exact (HS_plain rfl).2 (.v _)
theorem pathE_ok (ok : EnvOk E) (h : Rel Z F N s a R) {ops : List Oper} {o : Oper} {l : List Outc} (he : pathE E ops s o = some l) (hp : needL l) (hW : ∀ d, o.dst = some d → Z.W d) :
  (Region.wanted o (yielded ops.toArray a.tmps) = true ∧ UponV E.P (fun v R' => (kindL l ≤ 1 → Below R.heap.size R R') ∧ onL l fun s' => ∃ F' N', Rel Z F' N' s' (a.put o.dst v) R') ((execOp a.eval o).run E.P R)) ∨
  (Region.wanted o (yielded ops.toArray a.tmps) = false ∧ onL l fun s' => ∃ F' N', Rel Z F' N' s' (a.put o.dst undef) R) := by
 unfold pathE at he
 split at he
 ·rename_i l' hl
  cases he
  exact pathP_ok ok h hl hp hW
 ·split at he <;> first | (cases he; done) | skip
  split at he <;> first | (cases he; done) | skip
  split at he <;> first | (cases he; done) | skip
  rename_i u2 b2 y hg
  split at he <;> first | (cases he; done) | skip
  rename_i c hc
  split at he <;> first | (cases he; done) | skip
  rename_i l1 l2 h1 h2
  cases he
  obtain ⟨n1, n2⟩ := needL_and hp
  rw [kindL_and]
  rcases open_cases h hg hc with ⟨e, hr⟩ | ⟨e, hr⟩
  ·rcases pathP_ok ok hr h1 (n1 e) hW with ⟨g1, g2⟩ | ⟨g1, g2⟩
   ·exact .inl ⟨g1, uponV_mono g2 fun v R' ⟨g3, g4⟩ => ⟨fun hk => g3 (Nat.le_trans (Nat.le_max_left ..) hk), onL_and_true e g4⟩⟩
   ·exact .inr ⟨g1, onL_and_true e g2⟩
  ·rcases pathP_ok ok hr h2 n2 hW with ⟨g1, g2⟩ | ⟨g1, g2⟩
   ·exact .inl ⟨g1, uponV_mono g2 fun v R' ⟨g3, g4⟩ => ⟨fun hk => g3 (Nat.le_trans (Nat.le_max_right ..) hk), onL_and_false e g4⟩⟩
   ·exact .inr ⟨g1, onL_and_false e g2⟩
theorem pathE_quiet (ok : EnvOk E) (h : Rel Z F N s a R) {ops : List Oper} {o : Oper} {l : List Outc} (he : pathE E ops s o = some l) (hk : kindL l = 0) (hp : needL l) (hW : ∀ d, o.dst = some d → Z.W d) :
  ∃ v, (onL l fun s' => ∃ F' N', Rel Z F' N' s' (a.put o.dst v) R) ∧ Quiet E.P ops o a R v := by
 unfold pathE at he
 split at he
 ·rename_i l' hl
  cases he
  exact pathP_quiet ok h hl hk hp hW
 ·split at he <;> first | (cases he; done) | skip
  split at he <;> first | (cases he; done) | skip
  split at he <;> first | (cases he; done) | skip
  rename_i u2 b2 y hg
  split at he <;> first | (cases he; done) | skip
  rename_i c hc
  split at he <;> first | (cases he; done) | skip
  rename_i l1 l2 h1 h2
  cases he
  obtain ⟨n1, n2⟩ := needL_and hp
  rw [kindL_and] at hk
  have hk1 : kindL l1 = 0 := Nat.le_zero.1 (Nat.le_trans (Nat.le_max_left (kindL l1) (kindL l2)) (Nat.le_of_eq hk))
  have hk2 : kindL l2 = 0 := Nat.le_zero.1 (Nat.le_trans (Nat.le_max_right (kindL l1) (kindL l2)) (Nat.le_of_eq hk))
  rcases open_cases h hg hc with ⟨e, hr⟩ | ⟨e, hr⟩
  ·obtain ⟨v, g1, g2⟩ := pathP_quiet ok hr h1 hk1 (n1 e) hW
   exact ⟨v, onL_and_true e g1, g2⟩
  ·obtain ⟨v, g1, g2⟩ := pathP_quiet ok hr h2 hk2 n2 hW
   exact ⟨v, onL_and_false e g1, g2⟩
abbrev At (Z : Base) (A : Act) (w : World) : St → Prop := fun s => ∃ F N, Rel Z F N s A w
theorem evWays_quiet (ok : EnvOk E) {ops : List Oper} {o : Oper} (hW : ∀ d, o.dst = some d → Z.W d) : ∀ {l l' : List Path} {qs : List Prop}, evWays E ops o l = some (0, l', qs) → (∀ q ∈ qs, q) → onP l (At Z a R) → ∃ v, onP l' (At Z (a.put o.dst v) R) ∧ Quiet E.P ops o a R v
 | [], l', qs, he, _, h => h.elim
 | (c, s) :: r, l', qs, he, hp, h => by
  unfold evWays at he
  split at he <;> first | (cases he; done) | skip
  rename_i l1 h1
  split at he <;> first | (cases he; done) | skip
  rename_i k r' qs' h2
  injection he with he
  injection he with hk he
  injection he with e1 e2
  subst e1 e2
  have hk1 : kindL l1 = 0 := Nat.le_zero.1 (Nat.le_trans (Nat.le_max_left (kindL l1) k) (Nat.le_of_eq hk))
  have hk2 : k = 0 := Nat.le_zero.1 (Nat.le_trans (Nat.le_max_right (kindL l1) k) (Nat.le_of_eq hk))
  rcases h with ⟨hc, F, N, hr⟩ | ⟨hc, h⟩
  ·obtain ⟨v, g1, g2⟩ := pathE_quiet ok hr h1 hk1 (needC_ok hc fun p hm => hp p (List.mem_append.2 (.inl hm))) hW
   exact ⟨v, onP_condC hc g1, g2⟩
  ·subst hk2
   obtain ⟨v, g1, g2⟩ := evWays_quiet ok hW h2 (fun p hm => hp p (List.mem_append.2 (.inr hm))) h
   exact ⟨v, onP_skipC hc g1, g2⟩
theorem evWays_ok (ok : EnvOk E) {ops : List Oper} {o : Oper} (hW : ∀ d, o.dst = some d → Z.W d) : ∀ {l l' : List Path} {k : Nat} {qs : List Prop}, evWays E ops o l = some (k, l', qs) → (∀ q ∈ qs, q) → onP l (At Z a R) →
  (Region.wanted o (yielded ops.toArray a.tmps) = true ∧ UponV E.P (fun v R' => (k ≤ 1 → Below R.heap.size R R') ∧ onP l' (At Z (a.put o.dst v) R')) ((execOp a.eval o).run E.P R)) ∨
  (Region.wanted o (yielded ops.toArray a.tmps) = false ∧ onP l' (At Z (a.put o.dst undef) R))
 | [], l', k, qs, he, _, h => h.elim
 | (c, s) :: r, l', k, qs, he, hp, h => by
  unfold evWays at he
  split at he <;> first | (cases he; done) | skip
  rename_i l1 h1
  split at he <;> first | (cases he; done) | skip
  rename_i k' r' qs' h2
  cases he
  rcases h with ⟨hc, F, N, hr⟩ | ⟨hc, h⟩
  ·rcases pathE_ok ok hr h1 (needC_ok hc fun p hm => hp p (List.mem_append.2 (.inl hm))) hW with ⟨g1, g2⟩ | ⟨g1, g2⟩
   ·exact .inl ⟨g1, uponV_mono g2 fun v R' ⟨g3, g4⟩ => ⟨fun hk => g3 (Nat.le_trans (Nat.le_max_left ..) hk), onP_condC hc g4⟩⟩
   ·exact .inr ⟨g1, onP_condC hc g2⟩
  ·rcases evWays_ok ok hW h2 (fun p hm => hp p (List.mem_append.2 (.inr hm))) h with ⟨g1, g2⟩ | ⟨g1, g2⟩
   ·exact .inl ⟨g1, uponV_mono g2 fun v R' ⟨g3, g4⟩ => ⟨fun hk => g3 (Nat.le_trans (Nat.le_max_right ..) hk), onP_skipC hc g4⟩⟩
   ·exact .inr ⟨g1, onP_skipC hc g2⟩
end
end Go.Proofs.YtkknpeeccejppaaDoor
namespace Go.Proofs.YtkknpeeccejppaaDoor
open Go.RowKit
theorem bif_some {α : Type} {b : Bool} {x : Option α} {y : α} (h : (bif b then x else none) = some y) : x = some y := by cases b <;> first | exact h | cases h
theorem bif_none {α : Type} {b : Bool} {x : Option α} {y : α} (h : (bif b then none else x) = some y) : x = some y := by cases b <;> first | exact h | cases h
theorem drop1_sub (o : Objs) (d : Option Nat) : ∃ e, dropO1 o d = e ++ o := by
 cases d with
 | none => exact ⟨[], rfl⟩
 | some i => exact ⟨[(i, none)], rfl⟩
section
variable {E : Env} {s : St} {G : Guards}
theorem effE_sub (ok : EnvOk E) {o : Oper} {f : Eff} (he : effE E s G o = some f) : ∃ d, f.o = d ++ s.o := by
 obtain ⟨dst, op, type, pos, after, guard⟩ := o
 unfold effE at he
 simp only at he
 split at he
 ·unfold allocE at he
  repeat' (first | (cases he; done) | (replace he := bif_some he) | split at he)
  all_goals (cases he; exact ⟨[_], rfl⟩)
 ·unfold boxE at he
  repeat' (first | (cases he; done) | (replace he := bif_some he) | split at he)
  all_goals (cases he; exact ⟨[_], rfl⟩)
 ·unfold setE setRE at he
  repeat' (first | (cases he; done) | (replace he := bif_some he) | split at he)
  all_goals (cases he; exact ⟨[_], rfl⟩)
 ·unfold buildSlE at he
  repeat' (first | (cases he; done) | (replace he := bif_some he) | split at he)
  all_goals (generalize Nat.beq _ 0 = bb at he; cases bb <;> (cases he; first | exact ⟨[], rfl⟩ | exact ⟨[_], rfl⟩))
 ·unfold makeSlE at he
  repeat' (first | (cases he; done) | (replace he := bif_some he) | split at he)
  all_goals (cases he; exact ⟨[_], rfl⟩)
 ·unfold strBytesE at he
  repeat' (first | (cases he; done) | (replace he := bif_some he) | split at he)
  all_goals (cases he; exact ⟨[], rfl⟩)
 ·split at he <;> first | (cases he; done) | skip
  unfold appE at he
  repeat' (first | (cases he; done) | (replace he := bif_some he) | split at he)
  all_goals (cases he; first | exact ⟨[_], rfl⟩ | exact ⟨[_, _, _], rfl⟩ | (obtain ⟨e, h⟩ := drop1_sub s.o _; exact ⟨_ :: e, by show _ :: dropO1 _ _ = _; rw [h]; rfl⟩))
 ·split at he <;> first | (cases he; done) | skip
  unfold copyE at he
  repeat' (first | (cases he; done) | (replace he := bif_some he) | split at he)
  all_goals (cases he; exact ⟨[_], rfl⟩)
 ·unfold callEff at he
  split at he
  ·cases he; exact ⟨[], rfl⟩
  split at he <;> first | (cases he; done) | skip
  rename_i k x nx' o' ps hr
  cases he
  unfold callR at hr
  repeat' (first | (cases hr; done) | (replace hr := bif_some hr) | split at hr)
  exact ok.suf _ _ _ _ _ _ _ _ _ hr
 ·unfold rangeE at he
  repeat' (first | (cases he; done) | split at he)
  all_goals (cases he; exact ⟨[_], rfl⟩)
 ·unfold nextE at he
  repeat' (first | (cases he; done) | (replace he := bif_some he) | split at he)
  all_goals (cases he; exact ⟨[_], rfl⟩)
 ·unfold mkMapE at he
  replace he := bif_some he
  cases he
  exact ⟨[_], rfl⟩
 ·unfold mapUpE at he
  repeat' (first | (cases he; done) | (replace he := bif_some he) | split at he)
  all_goals (cases he; exact ⟨[_], rfl⟩)
 ·cases he
theorem opE_sub (ok : EnvOk E) {o : Oper} {f : Eff} (he : opE E s G o = some f) : ∃ d, f.o = d ++ s.o := by
 unfold opE at he
 cases hl : loudB o.op with
 | true => rw [hl] at he; exact effE_sub ok he
 | false =>
  rw [hl] at he
  simp only [cond_false] at he
  split at he
  ·cases he; exact ⟨[], rfl⟩
  ·exact effE_sub ok he
theorem Sub.put (s : St) (u : Nat) (x : A) : Sub s (s.put u x) := ⟨rfl, [], rfl⟩
theorem Sub.lit (s : St) (u : Nat) (b : Bool) : Sub s (s.lit u b) := ⟨rfl, [], rfl⟩
theorem putE_sub {dst : Option Tmp} {f : Eff} {s' : St} (he : putE s dst f = some s') (hf : ∃ d, f.o = d ++ s.o) : Sub s s' := by
 unfold putE at he
 split at he
 ·replace he := bif_some he
  cases he
  exact ⟨rfl, hf⟩
 ·cases he
  exact ⟨rfl, hf⟩
theorem skipE_sub {o : Oper} {s' : St} (he : skipE s o = some s') : Sub s s' := by
 unfold skipE at he
 split at he
 ·replace he := bif_some he
  cases he
  exact Sub.put _ _ _
 ·cases he
  exact Sub.refl _
theorem doE_sub (ok : EnvOk E) {o : Oper} {c c' : Cnd} {ps ps' : List Prop} {k : Nat} {s' : St} (he : doE E s G o c ps = some (c', k, s', ps')) : Sub s s' := by
 unfold doE at he
 split at he <;> first | (cases he; done) | skip
 rename_i f hf
 split at he <;> first | (cases he; done) | skip
 rename_i s1 hs
 cases he
 exact putE_sub hs (opE_sub ok hf)
theorem qput_sub {dst : Option Tmp} {x : A} {ps ps' : List Prop} {s' : St} (he : qput s dst x ps = some (s', ps')) : Sub s s' := by
 unfold qput at he
 split at he
 ·replace he := bif_some he
  cases he
  exact Sub.put _ _ _
 ·cases he
  exact Sub.refl _
theorem qstep_sub {ops : List Oper} {o : Oper} {s' : St} {ps : List Prop} (he : qstep E ops s o = some (s', ps)) : Sub s s' := by
 unfold qstep at he
 split at he
 ·split at he <;> first | (cases he; done) | skip
  exact qput_sub he
 ·split at he <;> first | (cases he; done) | skip
  split at he
  ·split at he <;> first | (cases he; done) | skip
   split at he
   ·split at he <;> first | (cases he; done) | skip
    exact qput_sub he
   ·exact qput_sub he
  ·split at he <;> first | (cases he; done) | skip
   split at he <;> first | (cases he; done) | skip
   replace he := bif_some he
   replace he := bif_none he
   cases he
   exact Sub.put _ _ _
def subL (s : St) : List Outc → Prop
 | [] => True
 | (_, _, s', _) :: r => Sub s s' ∧ subL s r
theorem step0_sub (ok : EnvOk E) {ops : List Oper} {o : Oper} {l : List Outc} (he : step0 E ops s o = some l) : subL s l := by
 unfold step0 at he
 split at he
 ·split at he <;> first | (cases he; done) | skip
  rename_i x hx
  obtain ⟨c, k, s', ps⟩ := x
  cases he
  exact ⟨doE_sub ok hx, trivial⟩
 ·split at he <;> first | (cases he; done) | skip
  split at he
  ·split at he <;> first | (cases he; done) | skip
   split at he
   ·split at he <;> first | (cases he; done) | skip
    rename_i x hx
    obtain ⟨c, k, s', ps⟩ := x
    cases he
    exact ⟨doE_sub ok hx, trivial⟩
   ·split at he <;> first | (cases he; done) | skip
    rename_i s' hs
    cases he
    exact ⟨skipE_sub hs, trivial⟩
  ·split at he
   ·split at he <;> first | (cases he; done) | skip
    replace he := bif_some he
    replace he := bif_none he
    cases he
    exact ⟨Sub.put _ _ _, trivial⟩
   ·split at he <;> first | (cases he; done) | skip
    split at he <;> first | (cases he; done) | skip
    rename_i x s' hx hs
    obtain ⟨c, k, s1, ps⟩ := x
    cases he
    exact ⟨(Sub.lit _ _ _).trans (doE_sub ok hx), (Sub.lit _ _ _).trans (skipE_sub hs), trivial⟩
theorem freezeL_sub : ∀ {l : List Nat} {s s' : St} {ps : List Prop}, freezeL E l s = (s', ps) → Sub s s'
 | [], s, s', ps, he => by cases he; exact Sub.refl _
 | i :: r, s, s', ps, he => by
  unfold freezeL at he
  split at he
  ·rename_i s1 ps1 h1
   generalize h2 : freezeL E r s1 = x at he
   obtain ⟨s2, qs⟩ := x
   cases he
   obtain ⟨e1, e2⟩ := freeze_sub h1
   exact Sub.trans ⟨e1, e2⟩ (freezeL_sub h2)
  ·exact freezeL_sub he
theorem subL_trans {s1 : St} (h : Sub s s1) : ∀ {l : List Outc}, subL s1 l → subL s l
 | [], _ => trivial
 | _ :: _, ⟨h1, h2⟩ => ⟨h.trans h1, subL_trans h h2⟩
theorem subL_addN {ps : List Prop} : ∀ {l : List Outc}, subL s l → subL s (addN ps l)
 | [], _ => trivial
 | _ :: _, ⟨h1, h2⟩ => ⟨h1, subL_addN h2⟩
theorem subL_bump : ∀ {l : List Outc}, subL s l → subL s (bump l)
 | [], _ => trivial
 | _ :: _, ⟨h1, h2⟩ => ⟨h1, subL_bump h2⟩
theorem stepE_sub (ok : EnvOk E) {ops : List Oper} {o : Oper} {l : List Outc} (he : stepE E ops s o = some l) : subL s l := by
 unfold stepE at he
 split at he
 ·rename_i l' hl
  cases he
  exact step0_sub ok hl
 ·split at he <;> first | (cases he; done) | skip
  rename_i i r hc
  generalize hf : freezeL E (i :: r) s = x at he
  obtain ⟨s', ps⟩ := x
  simp only at he
  split at he <;> first | (cases he; done) | skip
  rename_i l' hl
  replace he := bif_some he
  split at he
  ·rename_i l2 hle
   cases he
   obtain ⟨k, s1, qs, d, x, _, _, _, _, _, _, rfl⟩ := lendE_is hle
   exact ⟨Sub.put _ _ _, trivial⟩
  ·cases he
   exact subL_addN (subL_trans (freezeL_sub hf) (step0_sub ok hl))
theorem skipN_sub {ops : List Oper} {o : Oper} {s' : St} {ps : List Prop} (he : skipN ops s o = some (s', ps)) : Sub s s' := by
 unfold skipN at he
 repeat' (first | (cases he; done) | split at he)
 all_goals (rename_i hs; cases he; exact skipE_sub hs)
theorem pathP_sub (ok : EnvOk E) {ops : List Oper} {o : Oper} {l : List Outc} (he : pathP E ops s o = some l) : subL s l := by
 unfold pathP at he
 split at he
 ·rename_i s' ps hq
  cases he
  exact ⟨qstep_sub hq, trivial⟩
 ·split at he
  ·rename_i x r hs
   cases he
   exact subL_bump (stepE_sub ok hs)
  ·split at he <;> first | (cases he; done) | skip
   rename_i s' ps hs
   cases he
   exact ⟨skipN_sub hs, trivial⟩
theorem subL_and {s1 : St} {c : Cnd} {r : List Outc} (h : Sub s s1) (hr : subL s r) : ∀ {l : List Outc}, subL s1 l → subL s (andL c l ++ r)
 | [], _ => hr
 | _ :: _, ⟨h1, h2⟩ => ⟨h.trans h1, subL_and h hr h2⟩
theorem open_sub (s : St) (u u2 : Nat) (b2 : Bool) (y : A) : Sub s (s.open1 u u2 b2 y) := ⟨rfl, [], rfl⟩
theorem pathE_sub (ok : EnvOk E) {ops : List Oper} {o : Oper} {l : List Outc} (he : pathE E ops s o = some l) : subL s l := by
 unfold pathE at he
 split at he
 ·rename_i l' hl
  cases he
  exact pathP_sub ok hl
 ·repeat' (first | (cases he; done) | split at he)
  rename_i l1 l2 h1 h2
  cases he
  exact subL_and (open_sub _ _ _ _ _) (subL_trans (open_sub _ _ _ _ _) (pathP_sub ok h2)) (pathP_sub ok h1)
def subP (s : St) : List Path → Prop
 | [] => True
 | (_, s') :: r => Sub s s' ∧ subP s r
theorem subP_addC {s1 : St} (h : Sub s s1) {c : Cnd} {r' : List Path} (hr : subP s r') : ∀ {l : List Outc}, subL s1 l → subP s (condC c l ++ r')
 | [], _ => hr
 | _ :: _, ⟨h1, h2⟩ => ⟨h.trans h1, subP_addC h hr h2⟩
theorem evWays_sub (ok : EnvOk E) {ops : List Oper} {o : Oper} : ∀ {l l' : List Path} {k : Nat} {qs : List Prop}, evWays E ops o l = some (k, l', qs) → subP s l → subP s l'
 | [], l', k, qs, he, _ => by cases he; trivial
 | (c, s1) :: r, l', k, qs, he, ⟨h1, h2⟩ => by
  unfold evWays at he
  split at he <;> first | (cases he; done) | skip
  rename_i l1 g1
  split at he <;> first | (cases he; done) | skip
  rename_i k' r' qs' g2
  cases he
  exact subP_addC h1 (evWays_sub ok g2 h2) (pathE_sub ok g1)
end
def mergeP (W : List Nat) (s0 : St) : List Path → St
 | [] => s0
 | [(_, s)] => s
 | (c, s) :: r => mergeS (cval c) W s0 s (mergeP W s0 r)
theorem mergeP_sub (W : List Nat) (s0 : St) : ∀ {l : List Path}, subP s0 l → Sub s0 (mergeP W s0 l)
 | [], _ => Sub.refl _
 | [(_, _)], ⟨h, _⟩ => h
 | (_, _) :: _ :: _, _ => Sub.merge _ _ _ _ _
section
variable {Z : Base} {F F0 : Nat → Prop} {N N0 : Nm} {s0 s : St} {a a0 : Act} {R R0 : World} {W : List Nat}
theorem Rel.over (h0 : Rel Z F0 N0 s0 a0 R0) (h : Rel (midB F0 N0 s0 a0 R0 W) F N s a R) (hW : ∀ u, inW u W = true → Z.W u) : Rel Z F N s a R :=
 ⟨h.defers, h.size, h.slots, h.hp, h0.st.trans h.st, fun u hu => by
  rw [h.tm u fun hw => hu (hW u hw)]
  exact h0.tm u hu⟩
theorem mergeP_ok (h0 : Rel Z F0 N0 s0 a0 R0) : ∀ {l : List Path}, subP s0 l → onP l (At (midB F0 N0 s0 a0 R0 W) a R) → At (midB F0 N0 s0 a0 R0 W) a R (mergeP W s0 l)
 | [], _, h => h.elim
 | [(c, s)], _, h => by
  rcases h with ⟨_, h⟩ | ⟨_, h⟩
  ·exact h
  ·exact h.elim
 | (c, s) :: p :: r, ⟨h1, h2⟩, h => by
  have e2 := mergeP_sub W s0 h2
  rcases h with ⟨hc, F, N, h⟩ | ⟨hc, h⟩
  ·obtain ⟨N', hr⟩ := Rel.merge (g := cval c) (s1 := s) (s2 := mergeP W s0 (p :: r)) (h0.start W) (by rw [hc]; exact h) (fun _ h => h) h1 e2
   exact ⟨F, N', hr⟩
  ·obtain ⟨F, N, h⟩ := mergeP_ok h0 h2 h
   obtain ⟨N', hr⟩ := Rel.merge (g := cval c) (s1 := s) (s2 := mergeP W s0 (p :: r)) (h0.start W) (by rw [hc]; exact h) (fun _ h => h) h1 e2
   exact ⟨F, N', hr⟩
end
def dstL : List Oper → List Nat
 | [] => []
 | o :: r => match o.dst with
  | some d => d :: dstL r
  | none => dstL r
def evOps (E : Env) (ops : List Oper) : List Oper → List Path → Option (List Path × List Prop)
 | [], l => some (l, [])
 | o :: r, l => match evWays E ops o l with
  | some (_, l', ps) => match evOps E ops r l' with
   | some (l'', qs) => some (l'', ps ++ qs)
   | none => none
  | none => none
theorem dstL_mem : ∀ {l : List Oper} {o : Oper} {d : Nat}, o ∈ l → o.dst = some d → inW d (dstL l) = true
 | [], o, d, h, _ => by cases h
 | x :: r, o, d, h, hd => by
  rcases List.mem_cons.1 h with rfl | h
  ·unfold dstL
   rw [hd]
   show (bif Nat.beq d d then true else inW d (dstL r)) = true
   rw [beq_self]; rfl
  ·have := dstL_mem h hd
   unfold dstL
   split
   ·rename_i e _
    show (bif Nat.beq e d then true else inW d (dstL r)) = true
    rw [this]; cases Nat.beq e d <;> rfl
   ·exact this
section
variable {E : Env} {Z : Base} {a : Act} {R : World}
theorem ops_ok (ok : EnvOk E) {ops : List Oper} {Q : Exit → Act → World → Prop} : ∀ {l : List Oper} {P P' : List Path} {ps : List Prop} {a : Act} {R : World}, (∀ o ∈ l, ∀ d, o.dst = some d → Z.W d) → onP P (At Z a R) → evOps E ops l P = some (P', ps) → (∀ p ∈ ps, p) →
  (∀ a' R', onP P' (At Z a' R') → Q .normal a' R') → wpList E.P ops.toArray Q l a R
 | [], P, P', ps, a, R, _, h, he, _, hk => by
  cases he
  exact hk a R h
 | o :: r, P, P', ps, a, R, hW, h, he, hp, hk => by
  unfold evOps at he
  split at he <;> first | (cases he; done) | skip
  rename_i k P1 ps1 h1
  split at he <;> first | (cases he; done) | skip
  rename_i P2 ps2 h2
  cases he
  have next : ∀ a' R', onP P1 (At Z a' R') → wpList E.P ops.toArray Q r a' R' := fun a' R' h' => ops_ok ok (fun o ho => hW o (List.mem_cons_of_mem _ ho)) h' h2 (fun p hm => hp p (List.mem_append.2 (.inr hm))) hk
  unfold wpList
  rcases evWays_ok ok (hW o (List.mem_cons_self ..)) h1 (fun p hm => hp p (List.mem_append.2 (.inl hm))) h with ⟨g1, g2⟩ | ⟨g1, g2⟩
  ·rw [if_pos g1]
   left
   exact wp_uponV (uponV_mono g2 fun v R' ⟨_, g3⟩ => next _ _ g3)
  ·rw [if_neg (by rw [g1]; exact Bool.false_ne_true)]
   exact next _ _ g2
theorem evOps_sub {s0 : St} (ok : EnvOk E) {ops : List Oper} : ∀ {l : List Oper} {P P' : List Path} {ps : List Prop}, evOps E ops l P = some (P', ps) → subP s0 P → subP s0 P'
 | [], P, P', ps, he, h => by cases he; exact h
 | o :: r, P, P', ps, he, h => by
  unfold evOps at he
  split at he <;> first | (cases he; done) | skip
  rename_i k P1 ps1 h1
  split at he <;> first | (cases he; done) | skip
  rename_i P2 ps2 h2
  cases he
  exact evOps_sub ok h2 (evWays_sub ok h1 h)
end
def hasSl (P : Program) : Nat → TypeId → Bool
 | 0, _ => true
 | d + 1, t => match P.underlying t with
  | some (.slice _) => true
  | some (.struct fs) => fs.toList.any fun f => hasSl P d f.type
  | some (.array _ e) => hasSl P d e
  | some (.tuple es) => es.toList.any fun e => hasSl P d e
  | _ => false
def statM (P : Program) (o : Oper) : Bool := match o.op with
 | .alloc _ => true
 | .box _ _ => true
 | .buildSlice _ _ _ => true
 | .makeSlice _ _ _ => true
 | .store _ _ _ => true
 | .range _ _ => true
 | .next _ _ => true
 | .makeMap _ _ => true
 | .mapUpdate _ _ _ _ => true
 | .convert _ dst _ => match P.underlying dst with
  | some (.slice _) => true
  | _ => false
 | .call { callee := .builtin .append, .. } => true
 | .call { callee := .builtin .copy, .. } => true
 | .call { callee := .value _, .. } => hasSl P 4 o.type
 | _ => false
def depsIn (done : List Nat) (o : Oper) : Bool := o.after.toList.all fun e => !Region.binds .any e || done.contains e.on
def passP (P : Program) (ops : List Oper) : List Nat → List Nat → List Nat → List Nat × List Nat
 | [], done, left => (done, left.reverse)
 | i :: r, done, left => match ops[i]? with
  | some o => bif depsIn done o && !statM P o then passP P ops r (i :: done) left else passP P ops r done (i :: left)
  | none => passP P ops r done left
def earlyO (P : Program) (o : Oper) : Bool := match o.op, o.guard with
 | .alloc e, none => match (P.info? e).bind (·.zero) with
  | some _ => true
  | none => false
 | _, _ => false
def lateO (P : Program) (o : Oper) : Bool := bif earlyO P o then true else match o.op, o.guard with
 | .call { callee := .value (.func _), args, .. }, none => args.toList.isEmpty
 | _, _ => false
def mkB (o : Oper) : Bool := match o.op, o.guard with
 | .buildSlice _ _ _, none => true
 | .box _ _, none => true
 | _, _ => false
def mkE (E : Env) (s : St) (o : Oper) : Option Eff := match o.op, o.guard with
 | .buildSlice t len parts, none => bif Nat.beq len 0 then none else buildSlE E s [] t len parts.toList
 | .box e v, none => boxE s [] e v
 | _, _ => none
def mkV : Op → Nat → Value
 | .buildSlice _ len _, g => .slice (some ⟨g, 0, none⟩) len len
 | _, g => .pointer (some ⟨g, 0, none⟩)
def late2O (P : Program) (o : Oper) : Bool := bif lateO P o then true else mkB o
def earlyE (E : Env) (o : Oper) : Bool := bif earlyO E.P o then true else match o.op, o.guard with
 | .call { callee := .value f, args, .. }, none => (match closedC E f args.toList with
  | some _ => true
  | none => false)
 | _, _ => false
def firstM (late : Oper → Bool) (sk : Bool) (ops : List Oper) (done : List Nat) : List Nat → Option (Nat × List Nat)
 | [] => none
 | i :: r => match ops[i]? with
  | some o => bif depsIn done o && !(sk && late o) then some (i, r) else match firstM late sk ops done r with
   | some (m, l) => some (m, i :: l)
   | none => none
  | none => none
def planG (P : Program) (late : Oper → Bool) (ops : List Oper) : Nat → List Nat → List Nat → List Nat
 | 0, _, done => done.reverse
 | n + 1, todo, done => match passP P ops todo done [] with
  | (done', left) => match firstM late true ops done' left with
   | some (m, rest) => planG P late ops n rest (m :: done')
   | none => match firstM late false ops done' left with
    | some (m, rest) => planG P late ops n rest (m :: done')
    | none => done'.reverse
def plan (P : Program) (ops : List Oper) : List Nat := planG P (lateO P) ops (ops.length + 1) (List.range ops.length) []
def plan2 (P : Program) (ops : List Oper) : List Nat := planG P (late2O P) ops (ops.length + 1) (List.range ops.length) []
def evK (E : Env) (ops : List Oper) : List Nat → List Path → Option (List Nat × List Path × List Prop)
 | [], l => some ([], l, [])
 | i :: r, l => match ops[i]? with
  | some o => match evWays E ops o l with
   | some (k, l', ps) => match evK E ops r l' with
    | some (ks, l'', qs) => some (k :: ks, l'', ps ++ qs)
    | none => none
   | none => none
  | none => none
def stK (E : Env) (ops : List Oper) : List Nat → List Path → Nat → Option (List Path)
 | _, l, 0 => some l
 | [], _, _ + 1 => none
 | i :: r, l, k + 1 => match ops[i]? with
  | some o => match evWays E ops o l with
   | some (_, l', _) => stK E ops r l' k
   | none => none
  | none => none
theorem stK_zero {E : Env} {ops : List Oper} {L : List Nat} {l : List Path} : stK E ops L l 0 = some l := by cases L <;> rfl
theorem evK_at {E : Env} {ops : List Oper} : ∀ {L : List Nat} {l : List Path} {ks : List Nat} {lF : List Path} {psF : List Prop}, evK E ops L l = some (ks, lF, psF) →
  stK E ops L l L.length = some lF ∧ ∀ k, k < L.length → ∃ l1 o l2 ps2, ops[L.getD k 0]? = some o ∧ stK E ops L l k = some l1 ∧ evWays E ops o l1 = some (ks.getD k 0, l2, ps2) ∧ (∀ p ∈ ps2, p ∈ psF) ∧ stK E ops L l (k + 1) = some l2
 | [], l, ks, lF, psF, h => by cases h; exact ⟨rfl, fun k hk => by cases hk⟩
 | i :: r, l, ks, lF, psF, h => by
  unfold evK at h
  split at h <;> first | (cases h; done) | skip
  rename_i o ho
  split at h <;> first | (cases h; done) | skip
  rename_i kd l' ps hst
  split at h <;> first | (cases h; done) | skip
  rename_i ks' l'' qs hr
  cases h
  obtain ⟨h1, h2⟩ := evK_at hr
  have hs : ∀ k, stK E ops (i :: r) l (k + 1) = stK E ops r l' k := fun k => by
   show (match ops[i]? with | some o => (match evWays E ops o l with | some (_, l', _) => stK E ops r l' k | none => none) | none => none) = _
   rw [ho]
   simp only [hst]
  refine ⟨by rw [List.length_cons, hs]; exact h1, fun k hk => ?_⟩
  cases k with
  | zero => exact ⟨l, o, l', ps, ho, stK_zero, hst, fun p hp => List.mem_append.2 (.inl hp), by rw [hs, stK_zero]⟩
  | succ k =>
   obtain ⟨s1, o1, s2, ps2, g1, g2, g3, g5, g6⟩ := h2 k (by simpa using hk)
   exact ⟨s1, o1, s2, ps2, by simpa using g1, by rw [hs]; exact g2, by simpa using g3, fun p hp => List.mem_append.2 (.inr (g5 p hp)), by rw [hs]; exact g6⟩
theorem evK_sub {E : Env} {s0 : St} (ok : EnvOk E) {ops : List Oper} : ∀ {L : List Nat} {P P' : List Path} {ks : List Nat} {ps : List Prop}, evK E ops L P = some (ks, P', ps) → subP s0 P → subP s0 P'
 | [], P, P', ks, ps, he, h => by cases he; exact h
 | i :: r, P, P', ks, ps, he, h => by
  unfold evK at he
  split at he <;> first | (cases he; done) | skip
  split at he <;> first | (cases he; done) | skip
  rename_i k P1 ps1 h1
  split at he <;> first | (cases he; done) | skip
  rename_i ks2 P2 ps2 h2
  cases he
  exact evK_sub ok h2 (evWays_sub ok h1 h)
def commP (E : Env) (o o' : Oper) (s : St) : Bool := match o.op, o'.op, o'.guard with
 | .load t x, .store t' x' v', none => match s.ev [] x, s.ev [] x' with
  | some (.own i _), some (.own i' _) => bif Nat.beq i i' then false else (match lookO i s.o, lookO i' s.o, loadE E s [] t x, setE E s [] t' x' v', cellsOf s [] v' with
   | some (.box _ _), some (.box _ _), some _, some _, some _ => true
   | _, _, _, _, _ => false)
  | _, _ => false
 | _, _, _ => false
def commL (E : Env) (o o' : Oper) : List Path → Bool
 | [] => true
 | (_, s) :: r => bif commP E o o' s then commL E o o' r else false
def Blind {α : Type} (P : Program) (m : Sem α) : Prop := ∀ w x w1, m.run P w = .ok x w1 → w1 = w ∧ ∀ w', m.run P w' = .ok x w'
section
variable {P : Program} {α β : Type}
theorem Blind.pure (x : α) : Blind P (Pure.pure x : Sem α) := fun w y w1 h => by
 have h' : Result.ok x w = Result.ok y w1 := h
 cases h'
 exact ⟨rfl, fun _ => rfl⟩
theorem Blind.bind {m : Sem α} {f : α → Sem β} (h : Blind P m) (k : ∀ x, Blind P (f x)) : Blind P (m >>= f) := fun w y w1 he => by
 rw [Sem.run_bind] at he
 cases hm : m.run P w with
 | halt e w2 => rw [hm] at he; cases he
 | ok x w2 =>
  rw [hm] at he
  obtain ⟨rfl, h2⟩ := h w x w2 hm
  obtain ⟨rfl, h3⟩ := k x _ _ _ he
  exact ⟨rfl, fun w' => by rw [Sem.run_bind, h2 w']; exact h3 w'⟩
theorem Blind.halt (e : Halt) : Blind P (Sem.halt e : Sem α) := fun w x w1 he => by cases he
theorem Blind.prog {k : Program → Sem α} (h : ∀ p, Blind P (k p)) : Blind P (do let p ← program; k p) := fun w x w1 he => h P w x w1 he
def Never (P : Program) (m : Sem α) : Prop := ∀ w x w1, m.run P w ≠ .ok x w1
theorem Never.blind {m : Sem α} (h : Never P m) : Blind P m := fun w x w1 he => absurd he (h w x w1)
theorem Never.bind {m : Sem α} {f : α → Sem β} (h : ∀ x, Never P (f x)) : Never P (m >>= f) := fun w y w1 he => by
 rw [Sem.run_bind] at he
 cases hm : m.run P w with
 | halt e w2 => rw [hm] at he; cases he
 | ok x w2 => rw [hm] at he; exact h x _ _ _ he
theorem never_halt (e : Halt) : Never P (Sem.halt e : Sem α) := fun w x w1 he => by cases he
theorem never_panic (e : RuntimeError) : Never P (runtimePanic e : Sem α) := by
 unfold runtimePanic
 refine Never.bind fun p => ?_
 cases e <;> first | exact never_halt _ | exact Never.bind fun _ => Never.bind fun _ => never_halt _
theorem never_bounds (k : IntKind) (x y : Int) (c : BoundsCode) : Never P (boundsPanic k x y c : Sem α) := by
 unfold boundsPanic
 split <;> exact Never.bind fun s => never_panic _
theorem blind_under (t : TypeId) : Blind P (underlying t) := by
 unfold underlying
 refine Blind.prog fun p => ?_
 split <;> first | exact .pure _ | exact .halt _
theorem blind_info (t : TypeId) : Blind P (typeInfo t) := by
 unfold typeInfo
 refine Blind.prog fun p => ?_
 split <;> first | exact .pure _ | exact .halt _
theorem blind_size (t : TypeId) : Blind P (sizeOf t) := by
 unfold sizeOf
 exact (blind_info t).bind fun _ => .pure _
theorem blind_int (v : Value) : Blind P (asIntOf v) := by
 unfold asIntOf
 split <;> first | exact .pure _ | exact .halt _
theorem blind_sure (v : Value) : Blind P (Instr.sureAddr v) := by
 unfold Instr.sureAddr
 split <;> first | exact .pure _ | exact .halt _
theorem blind_index (t : TypeId) (x i : Value) : Blind P (Instr.indexAt t x i) := by
 unfold Instr.indexAt
 refine (blind_int i).bind fun ki => ?_
 repeat' (first | exact Blind.pure _ | exact Blind.halt _ | exact blind_under _ | exact blind_sure _ | exact blind_size _ | exact (never_bounds _ _ _ _).blind | (refine Blind.bind ?_ fun _ => ?_) | split | dsimp only)
theorem blind_zero (t : TypeId) : Blind P (zeroValue t) := by
 unfold zeroValue
 refine (blind_info t).bind fun i => ?_
 split <;> first | exact .pure _ | exact .halt _
theorem blind_mapM {γ : Type} (f : γ → Sem β) (hf : ∀ x, Blind P (f x)) (l : Array γ) : Blind P (l.mapM f) := by
 rw [Array.mapM_eq_mapM_toList]
 refine Blind.bind ?_ fun _ => .pure _
 induction l.toList with
 | nil => exact .pure _
 | cons a r ih =>
  rw [List.mapM_cons]
  exact (hf a).bind fun _ => ih.bind fun _ => .pure _
theorem blind_build (t : TypeId) (parts : Array (Nat × Value)) : Blind P (Instr.build t parts) := by
 unfold Instr.build
 refine Blind.bind ((blind_zero t)) fun z => ?_
 refine (blind_under t).bind fun d => ?_
 split
 ·refine (blind_mapM _ (fun f => (blind_size _).bind fun _ => .pure _) _).bind fun ps => ?_
  split <;> first | exact .pure _ | exact .halt _
 ·refine (blind_size _).bind fun s => ?_
  split <;> first | exact .pure _ | exact .halt _
 ·exact .halt _
theorem blind_agg (v : Value) : Blind P (asAgg v) := by
 unfold asAgg
 split <;> first | exact .pure _ | exact .halt _
theorem blind_isAgg (t : TypeId) : Blind P (isAgg t) := by
 unfold isAgg
 refine (blind_under t).bind fun d => ?_
 repeat' (first | exact Blind.pure _ | exact Blind.halt _ | split | dsimp only)
theorem blind_field (t : TypeId) (x : Value) (f : Nat) : Blind P (Instr.field t x f) := by
 unfold Instr.field part
 refine (blind_under t).bind fun d => ?_
 repeat' (first | exact Blind.pure _ | exact Blind.halt _ | exact blind_agg _ | exact blind_isAgg _ | exact blind_size _ | (refine Blind.bind ?_ fun _ => ?_) | split | dsimp only)
def blindO : Op → Bool
 | .indexAddr _ _ _ => true
 | .build _ _ => true
 | .field _ _ _ => true
 | _ => false
theorem blind_exec {ev : Operand → Value} {o : Oper} (h : blindO o.op = true) : ∃ I : Sem Value, execOp ev o = (do pure (.value (← I))) ∧ Blind P I := by
 obtain ⟨dst, op, type, pos, after, guard⟩ := o
 simp only at h
 unfold blindO at h
 split at h <;> first | (cases h; done) | skip
 ·exact ⟨_, rfl, blind_index _ _ _⟩
 ·exact ⟨_, rfl, blind_build _ _⟩
 ·exact ⟨_, rfl, blind_field _ _ _⟩
end
def moveB (ops : List Oper) (order : List Nat) (j : Nat) : Bool := match ops[order.getD j 0]? with
 | some o => (match o.op with
  | .move _ => true
  | .extract _ _ => true
  | p => blindO p)
 | none => false
theorem pend_move {P : Program} {ops : List Oper} {order : List Nat} {a : Act} {V : Nat → Value} {w w' : World} {j : Nat} (h : moveB ops order j = true) (hp : Pend P ops.toArray (fun k => order.getD k 0) a V w j) : Pend P ops.toArray (fun k => order.getD k 0) a V w' j := fun o2 ho2 => by
 have ho3 : ops[order.getD j 0]? = some o2 := by simpa using ho2
 unfold moveB at h
 rw [ho3] at h
 simp only at h
 split at h <;> first | (cases h; done) | skip
 ·rename_i x hx
  have hex : ∀ w1, (execOp (canA ops.toArray (fun k => order.getD k 0) a V j).eval o2).run P w1 = .ok (.value ((canA ops.toArray (fun k => order.getD k 0) a V j).eval x)) w1 := fun w1 => by
   obtain ⟨dst, op, type, pos, after, guard⟩ := o2
   simp only at hx
   subst hx
   rfl
  rcases hp o2 ho2 with ⟨p1, p2⟩ | ⟨p1, p2⟩
  ·refine .inl ⟨p1, fun w1 _ => ?_⟩
   have p3 := p2 w (Below.refl _ _)
   rw [hex] at p3 ⊢
   exact ⟨rfl, p3.2⟩
  ·exact .inr ⟨p1, p2⟩
 ·rename_i x ix hx
  have hex : ∀ w1, (execOp (canA ops.toArray (fun k => order.getD k 0) a V j).eval o2).run P w1 = (do pure (.value (← Instr.extract ((canA ops.toArray (fun k => order.getD k 0) a V j).eval x) ix)) : Sem Next).run P w1 := fun w1 => by
   obtain ⟨dst, op, type, pos, after, guard⟩ := o2
   simp only at hx
   subst hx
   rfl
  rcases hp o2 ho2 with ⟨p1, p2⟩ | ⟨p1, p2⟩
  ·refine .inl ⟨p1, fun w1 _ => ?_⟩
   have p3 := p2 w (Below.refl _ _)
   rw [hex] at p3 ⊢
   revert p3
   generalize (canA ops.toArray (fun k => order.getD k 0) a V j).eval x = v
   intro p3
   cases v <;> try exact (show False from p3).elim
   rename_i vs
   unfold Instr.extract at p3 ⊢
   cases h : vs[ix]? with
   | none => simp only [h] at p3; exact (show False from p3).elim
   | some u => simp only [h] at p3 ⊢; exact ⟨rfl, (show _ ∧ _ from p3).2⟩
  ·exact .inr ⟨p1, p2⟩
 ·have hbl : blindO o2.op = true := h
  rcases hp o2 ho2 with ⟨p1, p2⟩ | ⟨p1, p2⟩
  ·refine .inl ⟨p1, fun w1 _ => ?_⟩
   have p3 := p2 w (Below.refl _ _)
   obtain ⟨I, hI, hb⟩ := blind_exec (P := P) (ev := (canA ops.toArray (fun k => order.getD k 0) a V j).eval) hbl
   rw [hI, Sem.run_bind] at p3 ⊢
   cases hr : I.run P w with
   | halt e w2 => rw [hr] at p3; exact (show False from p3).elim
   | ok x w2 =>
    rw [hr] at p3
    rw [(hb w x w2 hr).2 w1]
    exact ⟨rfl, (show _ ∧ _ from p3).2⟩
  ·exact .inr ⟨p1, p2⟩
def commK (E : Env) (ops : List Oper) (order : List Nat) (l0 : List Path) (j k : Nat) : Bool := match ops[order.getD j 0]?, ops[order.getD k 0]?, stK E ops order l0 k with
 | some o, some o', some l => bif commL E o o' l then (match o.op with
  | .load _ (.tmp x) => (List.range (k - j)).all fun m => match ops[order.getD (j + m) 0]? with
   | some p => match p.dst with
    | some d => !(Nat.beq d x)
    | none => true
   | none => true
  | _ => false) else false
 | _, _, _ => false
section
variable {E : Env} {Z : Base} {F : Nat → Prop} {N : Nm} {s : St} {a : Act} {R : World}
theorem load_own (h : Rel Z F N s a R) {t : TypeId} {x : Operand} {i off : Nat} (hx : s.ev [] x = some (.own i off)) {e0 : TypeId} {cs0 : List A} (hl0 : lookO i s.o = some (.box e0 cs0)) {z : A} {ps : List Prop} (he : loadE E s [] t x = some (z, ps)) :
  ∃ y, ∀ R', R'.heap[N.b i]? = R.heap[N.b i]? → (Instr.loadAt t (a.eval x)).run E.P R' = .ok y R' := by
 have hx' := (ev_ok h (gok_nil _) hx).2.own_inv
 unfold loadE at he
 rw [hx] at he
 simp only at he
 rw [hl0] at he
 simp only at he
 have hl := hl0
 split at he <;> first | (cases he; done) | skip
 rename_i z' hz
 cases he
 obtain ⟨_, vs, g1, g2⟩ := h.hp.ob i _ hl
 obtain ⟨y, _, q2⟩ := readL_ok (ad := ⟨N.b i, off, none⟩) hz (g1.drop off)
 refine ⟨y, fun R' hb => ?_⟩
 rw [run_loadAt hx'.2]
 refine q2 R' fun j v hj => ?_
 rw [add_mk, blk_cell (hb.trans g2)]
 rw [List.getElem?_drop] at hj
 simpa using hj
theorem set_own (h : Rel Z F N s a R) {t : TypeId} {x v : Operand} {i off : Nat} (hx : s.ev [] x = some (.own i off)) {e0 : TypeId} {cs0 : List A} (hl0 : lookO i s.o = some (.box e0 cs0)) {us0 : List A} (hus0 : cellsOf s [] v = some us0) {f : Eff} (he : setE E s [] t x v = some f) :
  ∃ R', (Instr.storeAt t (a.eval x) (a.eval v)).run E.P R = .ok () R' ∧ R'.heap.size = R.heap.size ∧ ∀ g, g ≠ N.b i → R'.heap[g]? = R.heap[g]? := by
 have hx' := (ev_ok h (gok_nil _) hx).2.own_inv
 unfold setE at he
 split at he
 rotate_left
 ·rename_i hus
  rw [hus0] at hus
  cases hus
 rename_i us hus
 obtain ⟨hu, h1⟩ := cellsOf_ok h (gok_nil _) hus
 have hlen := hu.length
 split at he <;> first | (cases he; done) | skip
 rename_i n hn
 cases hb : Nat.beq n us.length with
 | false => rw [hb] at he; cases he
 | true =>
  rw [hb] at he
  obtain rfl := Nat.eq_of_beq_eq_true hb
  simp only [cond_true, hx] at he
  rw [← hlen] at hn
  have hl := hl0
  rw [hl0] at he
  simp only at he
  generalize e0 = e at hl he
  generalize cs0 = cs at hl he
  cases hb2 : Nat.ble (off + us.length) cs.length with
  | false => rw [hb2] at he; cases he
  | true =>
   have hle := Nat.le_of_ble_eq_true hb2
   obtain ⟨_, vs, g1, g2⟩ := h.hp.ob i _ hl
   have hvl := g1.length
   exact ⟨_, run_storeAt hx'.2 g2 hn (by omega) h1, by simp [World.setRow], fun g hg => setRow_other R _ g _ hg⟩
theorem comm_ok (h : Rel Z F N s a R) {o o' : Oper} (hc : commP E o o' s = true) :
  ∃ t x R' y, o.op = .load t x ∧ o'.guard = none ∧ (execOp a.eval o').run E.P R = .ok .skip R' ∧ (Instr.loadAt t (a.eval x)).run E.P R = .ok y R ∧
   ∀ w1, Below R'.heap.size R' w1 → (Instr.loadAt t (a.eval x)).run E.P w1 = .ok y w1 := by
 unfold commP at hc
 split at hc <;> first | (cases hc; done) | skip
 rename_i t x t' x' v' ho ho' hg
 split at hc <;> first | (cases hc; done) | skip
 rename_i i off i' off' hx hx'
 cases hb : Nat.beq i i' with
 | true => rw [hb] at hc; cases hc
 | false =>
  rw [hb] at hc
  simp only [cond_false] at hc
  split at hc <;> first | (cases hc; done) | skip
  rename_i e cs e' cs' zl f us0 hbx hbx' hl hf hus0
  obtain ⟨z, ps⟩ := zl
  obtain ⟨y, g1⟩ := load_own h hx hbx hl
  obtain ⟨R', g2, g3, g4⟩ := set_own h hx' hbx' hus0 hf
  have hne : N.b i ≠ N.b i' := fun e => by
   have := h.hp.sep i i' _ _ (N.b i) hbx hbx' rfl e
   subst this
   simp at hb
  obtain ⟨_, vs, _, q2⟩ := h.hp.ob i _ hbx
  refine ⟨t, x, R', y, ho, hg, ?_, g1 R rfl, fun w1 hw => g1 w1 ?_⟩
  ·obtain ⟨dst, op, type, pos, after, guard⟩ := o'
   simp only at ho'
   subst ho'
   simp [execOp, g2]
  ·rw [hw.block _ (by rw [g3]; exact blk_lt q2)]
   exact g4 _ hne
theorem commL_at {o o' : Oper} : ∀ {l : List Path}, commL E o o' l = true → onP l (fun s => ∃ F N, Rel Z F N s a R) → ∃ s F N, Rel Z F N s a R ∧ commP E o o' s = true
 | [], _, h => h.elim
 | (c, s) :: r, hc, h => by
  unfold commL at hc
  cases hp : commP E o o' s with
  | false => rw [hp] at hc; cases hc
  | true =>
   rw [hp] at hc
   rcases h with ⟨_, F, N, h⟩ | ⟨_, h⟩
   ·exact ⟨s, F, N, h, hp⟩
   ·exact commL_at hc h
end
abbrev R3 := Option (St × List Prop)
def noWrB (ops : List Oper) (order : List Nat) (p k : Nat) (o : Oper) : Bool := (List.range (k - p)).all fun i => match ops[order.getD (p + i) 0]? with
 | some o' => (match o'.dst with
  | some d => !((o.looksAt ops.toArray).contains d)
  | none => true)
 | none => true
def isS {α : Type} : Option α → Bool
 | some _ => true
 | none => false
def preP (E : Env) (o : Oper) (l : List Path) : Bool := l.all fun cs => isS (mkE E cs.2 o)
def putP (E : Env) (o : Oper) (l : List Path) : Bool := l.all fun cs => match mkE E cs.2 o with
 | some f => isS (putE cs.2 o.dst f)
 | none => false
def preB (E : Env) (ops : List Oper) (order : List Nat) (l0 : List Path) (k : Nat) (o : Oper) : Bool :=
 (match stK E ops order l0 k with
 | some l => putP E o l
 | none => false) && (List.range (k + 1)).all fun p => !(noWrB ops order p k o) || (match stK E ops order l0 p with
 | some l => preP E o l
 | none => true)
def earlyK (E : Env) (ops : List Oper) (order : List Nat) (l0 : List Path) (k : Nat) : Bool := match ops[order.getD k 0]? with
 | some o => bif earlyE E o then true else bif mkB o then preB E ops order l0 k o else false
 | none => false
def evO (E : Env) (ops : List Oper) (order : List Nat) (s : St) : R3 := match evK E ops order [(none, s)] with
 | some (ks, l, ps) => bif canonB ops.toArray order ks (earlyK E ops order [(none, s)]) (fun j k => moveB ops order j || commK E ops order [(none, s)] j k) && eopB ops.toArray order (earlyK E ops order [(none, s)]) then some (mergeP (dstL ops) s l, ps) else none
 | none => none
def evR (E : Env) (ops : List Oper) (draw : Bool) (s : St) : R3 := match draw with
 | true => match evO E ops (plan E.P ops) s with
  | some r => some r
  | none => evO E ops (plan2 E.P ops) s
 | false => match evOps E ops ops [(none, s)] with
  | some (l, ps) => some (mergeP (dstL ops) s l, ps)
  | none => none
section
variable {E : Env} {Z : Base} {F : Nat → Prop} {N : Nm} {s : St} {a : Act} {R : World}
theorem region_sub (ok : EnvOk E) {ops : List Oper} {draw : Bool} {s' : St} {ps : List Prop} (he : evR E ops draw s = some (s', ps)) : Sub s s' := by
 cases draw with
 | false =>
  unfold evR at he
  simp only at he
  split at he <;> first | (cases he; done) | skip
  rename_i l ps1 h1
  cases he
  exact mergeP_sub _ _ (evOps_sub ok h1 ⟨Sub.refl _, trivial⟩)
 | true =>
  have one : ∀ order, evO E ops order s = some (s', ps) → Sub s s' := fun order he => by
   unfold evO at he
   split at he <;> first | (cases he; done) | skip
   rename_i ks l ps1 h1
   replace he := bif_some he
   cases he
   exact mergeP_sub _ _ (evK_sub ok h1 ⟨Sub.refl _, trivial⟩)
  unfold evR at he
  simp only at he
  split at he
  ·rename_i r hr
   cases he
   exact one _ hr
  ·exact one _ he
def RsvK (E : Env) (ops : List Oper) (order : List Nat) (k : Nat) (A : Act) (j : Nat) (v : Value) (G : Nat → Prop) (w : World) : Prop :=
 (∃ g e z, v = .pointer (some ⟨g, 0, none⟩) ∧ (∃ op, ops[order.getD j 0]? = some op ∧ op.op = .alloc e) ∧ (E.P.info? e).bind (·.zero) = some z ∧ (∀ b, G b ↔ b = g) ∧ w.heap[g]? = some (.cells z.cells.toList.toArray e (0, 0))) ∨
 (∃ g x args ts N0, (∃ op, ops[order.getD j 0]? = some op ∧ op.op = .call { callee := .value (.func g), args := args, argTypes := ts }) ∧ closedC E (.func g) args.toList = some (g, x) ∧ Hv G N0 0 w x v) ∨
 (∃ g C op, ops[order.getD j 0]? = some op ∧ mkB op = true ∧ (∀ w0, (execOp A.eval op).run E.P w0 = .ok (.value (mkV op.op w0.heap.size)) (w0.alloc C)) ∧ v = mkV op.op g ∧ (∀ b, G b ↔ b = g) ∧ w.heap[g]? = some C ∧ NoWr ops.toArray (fun k => order.getD k 0) k j op)
def Rsv (E : Env) (ops : List Oper) (order : List Nat) (B k : Nat) (X : Aside) (A : Act) (F : Nat → Prop) (N : Nm) (o : Objs) (w : World) : Prop :=
 ∃ G : Nat → Nat → Prop, (∀ j v, k ≤ j → X j = some v → RsvK E ops order k A j v (G j) w ∧ ∀ b, G j b → B ≤ b ∧ b < w.heap.size ∧ ¬ F b ∧ ¬ Foot N o b) ∧ ∀ i j u v b, k ≤ i → k ≤ j → X i = some u → X j = some v → G i b → G j b → i = j
theorem rsvK_keep {E : Env} {ops : List Oper} {order : List Nat} {k : Nat} {A : Act} {j : Nat} {v : Value} {G : Nat → Prop} {w w' : World} (h : RsvK E ops order k A j v G w) (hk : ∀ b, G b → w'.heap[b]? = w.heap[b]?) : RsvK E ops order k A j v G w' := by
 rcases h with ⟨g, e, z, h1, h2, h3, h4, h5⟩ | ⟨g, x, args, ts, N0, h1, h2, h3⟩ | ⟨g, C, op, h1, h2, h3, h4, h5, h6, h7⟩
 ·exact .inl ⟨g, e, z, h1, h2, h3, h4, by rw [hk g ((h4 g).2 rfl)]; exact h5⟩
 ·exact .inr (.inl ⟨g, x, args, ts, N0, h1, h2, h3.step ⟨Nat.le_refl _, fun _ _ => rfl, fun _ _ => rfl, fun _ h => h, hk⟩⟩)
 ·exact .inr (.inr ⟨g, C, op, h1, h2, h3, h4, h5, by rw [hk g ((h5 g).2 rfl)]; exact h6, h7⟩)
theorem mkB_sel {op : Oper} (h : mkB op = true) : ∀ cs b, op.op ≠ .select cs b := fun cs b e => by
 unfold mkB at h
 rw [e] at h
 cases h
theorem rsvK_put {E : Env} {ops : List Oper} {order : List Nat} {k : Nat} {A : Act} {j : Nat} {v u : Value} {G : Nat → Prop} {w : World} (h : RsvK E ops order k A j v G w) (hkj : k < j) {o : Oper} (ho : ops[order.getD k 0]? = some o) : RsvK E ops order (k + 1) (A.put o.dst u) j v G w := by
 rcases h with h | h | ⟨g, C, op, h1, h2, h3, h4, h5, h6, h7⟩
 ·exact .inl h
 ·exact .inr (.inl h)
 ·refine .inr (.inr ⟨g, C, op, h1, h2, fun w0 => ?_, h4, h5, h6, fun i q1 q2 => h7 i (by omega) q2⟩)
  rw [execOp_slots (a := A) (a' := A.put o.dst u) (ops := ops.toArray) op (mkB_sel h2) fun t ht => ?_]
  ·exact h3 w0
  ·cases hd : o.dst with
   | none => rfl
   | some d =>
    rw [put_getD, if_neg]
    rintro ⟨rfl, _⟩
    exact h7 k (Nat.le_refl _) hkj o _ (by simpa using ho) hd ht
theorem rsv_step {E : Env} {ops : List Oper} {order : List Nat} {B k nx nx' : Nat} {X : Aside} {A : Act} {F F' : Nat → Prop} {N N' : Nm} {o o' : Objs} {w w' : World} (h : Rsv E ops order B k X A F N o w) (st : Step F N nx o w F' N' nx' o' w') : Rsv E ops order B k X A F' N' o' w' := by
 obtain ⟨G, h1, h2⟩ := h
 refine ⟨G, fun j v hj hx => ?_, h2⟩
 obtain ⟨q1, q2⟩ := h1 j v hj hx
 refine ⟨rsvK_keep q1 fun b hb => st.keep b (q2 b hb).2.1 (q2 b hb).2.2.2, fun b hb => ?_⟩
 obtain ⟨h4, h5, h6, h7⟩ := q2 b hb
 refine ⟨h4, Nat.lt_of_lt_of_le h5 st.size, fun hf => ?_, fun hf => ?_⟩
 ·rcases st.fnew b hf with q | q | q
  ·exact h6 q
  ·exact h7 q
  ·omega
 ·rcases st.foot b hf with q | q
  ·exact h7 q
  ·omega
theorem rsv_put {E : Env} {ops : List Oper} {order : List Nat} {B k : Nat} {X : Aside} {A : Act} {F : Nat → Prop} {N : Nm} {o : Objs} {w : World} (h : Rsv E ops order B k X A F N o w) {op : Oper} (ho : ops[order.getD k 0]? = some op) (u : Value) : Rsv E ops order B (k + 1) X (A.put op.dst u) F N o w := by
 obtain ⟨G, h1, h2⟩ := h
 exact ⟨G, fun j v hj hx => ⟨rsvK_put (h1 j v (by omega) hx).1 (by omega) ho, (h1 j v (by omega) hx).2⟩, fun i j u v b hi hj => h2 i j u v b (by omega) (by omega)⟩
theorem rsv_grow {E : Env} {ops : List Oper} {order : List Nat} {B k : Nat} {X : Aside} {A : Act} {F : Nat → Prop} {N : Nm} {o : Objs} {w w' : World} (h : Rsv E ops order B k X A F N o w) (hb : Below w.heap.size w w') : Rsv E ops order B k X A F N o w' :=
 rsv_step h (nx := 0) (nx' := 0) (Step.of_below hb)
theorem use_free (h : Rel Z F N s a R) {G : Nat → Prop} {N0 : Nm} {x : A} {v : Value} (hG : ∀ b, G b → Z.R.heap.size ≤ b ∧ b < R.heap.size ∧ ¬ F b ∧ ¬ Foot N s.o b) (hx : Hv G N0 0 R x v) (hf : x.free = true) :
  Rel Z (fun b => F b ∨ G b) N s a R ∧ Hv (fun b => F b ∨ G b) N s.nx R x v := by
 have hw : Ext F N s.nx R (fun b => F b ∨ G b) N s.nx R := Ext.wide fun g hg => .inl hg
 have hw2 : Ext G N0 0 R (fun b => F b ∨ G b) N0 0 R := Ext.wide fun g hg => .inr hg
 refine ⟨⟨h.defers, h.size, fun u y hu => (h.slots u y hu).step hw, ⟨fun g hg => ?_, fun i ob hi => ⟨(h.hp.ob i ob hi).1, (h.hp.ob i ob hi).2.step hw (h.hp.ob i ob hi).1 fun _ _ => rfl⟩, fun i ob g hi hg hfg => ?_, h.hp.sep, h.hp.gl.step hw⟩, ?_, h.tm⟩, (hx.step hw2).free hf⟩
 ·rcases hg with hg | hg
  ·exact h.hp.flt g hg
  ·exact (hG g hg).2.1
 ·rcases hfg with hfg | hfg
  ·exact h.hp.ff i ob g hi hg hfg
  ·exact (hG g hfg).2.2.2 ⟨i, ob, hi, hg⟩
 ·have := h.st
  refine ⟨this.le, this.b, this.q, fun g hg => .inl (this.f g hg), fun g hg => ?_, this.foot, this.os, this.tape, this.output, this.size, this.keep⟩
  rcases hg with hg | hg
  ·exact this.fnew g hg
  ·exact .inr (.inr (hG g hg).1)
theorem use_rel (h : Rel Z F N s a R) {e : TypeId} {z : Value} {g : Nat} (hB : Z.R.heap.size ≤ g) (hg : g < R.heap.size) (nF : ¬ F g) (nO : ¬ Foot N s.o g) (hc : R.heap[g]? = some (.cells z.cells.toList.toArray e (0, 0))) :
  Rel Z F (N.setB s.nx g) ⟨s.n, s.nx + 1, s.t, (s.nx, some (.box e (toL z.cells.toList))) :: s.o⟩ a R ∧ Hv F (N.setB s.nx g) (s.nx + 1) R (.own s.nx 0) (.pointer (some ⟨g, 0, none⟩)) ∧ ∀ g', Foot (N.setB s.nx g) ((s.nx, some (.box e (toL z.cells.toList))) :: s.o) g' → g' = g ∨ Foot N s.o g' := by
 have hb : (N.setB s.nx g).b s.nx = g := setF_same _ _ _
 have hne : ∀ i, i < s.nx → (N.setB s.nx g).b i = N.b i := fun i hi => setF_ne _ _ (by omega)
 have st : Ext F N s.nx R F (N.setB s.nx g) (s.nx + 1) R := ⟨Nat.le_succ _, hne, fun _ _ => rfl, fun _ h => h, fun _ _ => rfl⟩
 have cases : ∀ {i ob}, lookO i ((s.nx, some (Ob.box e (toL z.cells.toList))) :: s.o) = some ob → (i = s.nx ∧ ob = .box e (toL z.cells.toList)) ∨ (i < s.nx ∧ lookO i s.o = some ob) := fun {i ob} hl => by
  rw [lookO_cons] at hl
  split at hl
  ·exact .inl ⟨‹_›, (Option.some.inj hl).symm⟩
  ·exact .inr ⟨(h.hp.ob i ob hl).1, hl⟩
 have hfoot : ∀ {i ob g'}, i < s.nx → (foot (N.setB s.nx g) i ob g' ↔ foot N i ob g') := fun {i ob g'} hi => foot_step st hi
 have fo : ∀ g', Foot (N.setB s.nx g) ((s.nx, some (.box e (toL z.cells.toList))) :: s.o) g' → g' = g ∨ Foot N s.o g' := fun g' ⟨i, ob, hl, hf⟩ => by
  rcases cases hl with ⟨rfl, rfl⟩ | ⟨hi, hl⟩
  ·exact .inl (by have : g' = (N.setB s.nx g).b s.nx := hf; rw [this, hb])
  ·exact .inr ⟨i, ob, hl, (hfoot hi).1 hf⟩
 have hp : HRel F (N.setB s.nx g) (s.nx + 1) ((s.nx, some (.box e (toL z.cells.toList))) :: s.o) R := by
  refine ⟨h.hp.flt, fun i ob hl => ?_, fun i ob g' hl hf => ?_, fun i j x y g' hi hj hx hy => ?_, h.hp.gl⟩
  ·rcases cases hl with ⟨rfl, rfl⟩ | ⟨hi, hl⟩
   ·refine ⟨Nat.lt_succ_self _, z.cells.toList, HL.toL _, ?_⟩
    rw [hb]
    exact hc
   ·exact ⟨by omega, (h.hp.ob i ob hl).2.step st hi fun _ _ => rfl⟩
  ·rcases cases hl with ⟨rfl, rfl⟩ | ⟨hi, hl⟩
   ·have : g' = (N.setB s.nx g).b s.nx := hf
    rw [this, hb]
    exact nF
   ·exact h.hp.ff i ob g' hl ((hfoot hi).1 hf)
  ·rcases cases hi with ⟨rfl, rfl⟩ | ⟨hi1, hi2⟩
   ·rcases cases hj with ⟨rfl, rfl⟩ | ⟨hj1, hj2⟩
    ·rfl
    ·have : g' = (N.setB s.nx g).b s.nx := hx
     rw [hb] at this
     subst this
     exact absurd ⟨j, y, hj2, (hfoot hj1).1 hy⟩ nO
   ·rcases cases hj with ⟨rfl, rfl⟩ | ⟨hj1, hj2⟩
    ·have : g' = (N.setB s.nx g).b s.nx := hy
     rw [hb] at this
     subst this
     exact absurd ⟨i, x, hi2, (hfoot hi1).1 hx⟩ nO
    ·exact h.hp.sep i j x y g' hi2 hj2 ((hfoot hi1).1 hx) ((hfoot hj1).1 hy)
 refine ⟨⟨h.defers, h.size, fun u x hu => (h.slots u x hu).step st, hp, ?_, h.tm⟩, ?_, fo⟩
 ·have := h.st
  refine ⟨Nat.le_trans this.le (Nat.le_succ _), fun i hi => by rw [hne i (Nat.lt_of_lt_of_le hi this.le)]; exact this.b i hi, fun i hi => this.q i hi, this.f, this.fnew, fun g' hf => ?_, this.os, this.tape, this.output, this.size, this.keep⟩
  rcases fo g' hf with q | q
  ·exact .inr (by omega)
  ·exact this.foot g' q
 ·have : (⟨g, 0, none⟩ : Addr) = ⟨(N.setB s.nx g).b s.nx, 0, none⟩ := by rw [hb]
  rw [this]
  exact .own (Nat.lt_succ_self _)
def Nm.both (N : Nm) (i g : Nat) (v : Value) : Nm := ⟨setF N.b i g, setF N.q i v⟩
theorem both_ext {F : Nat → Prop} {N : Nm} {nx g : Nat} {v : Value} {R : World} : Ext F N nx R F (N.both nx g v) (nx + 1) R :=
 ⟨Nat.le_succ _, fun i hi => setF_ne _ _ (by omega), fun i hi => setF_ne _ _ (by omega), fun _ h => h, fun _ _ => rfl⟩
theorem use_mk (h : Rel Z F N s a R) {ob : Ob} {g : Nat} {v : Value} (hB : Z.R.heap.size ≤ g) (nF : ¬ F g) (nO : ¬ Foot N s.o g) (hob : ObR F (N.both s.nx g v) (s.nx + 1) R s.nx ob) (hft : ∀ b, foot (N.both s.nx g v) s.nx ob b → b = g) :
  Rel Z F (N.both s.nx g v) ⟨s.n, s.nx + 1, s.t, (s.nx, some ob) :: s.o⟩ a R ∧ ∀ g', Foot (N.both s.nx g v) ((s.nx, some ob) :: s.o) g' → g' = g ∨ Foot N s.o g' := by
 have st : Ext F N s.nx R F (N.both s.nx g v) (s.nx + 1) R := both_ext
 have cases : ∀ {i o1}, lookO i ((s.nx, some ob) :: s.o) = some o1 → (i = s.nx ∧ o1 = ob) ∨ (i < s.nx ∧ lookO i s.o = some o1) := fun {i o1} hl => by
  rw [lookO_cons] at hl
  split at hl
  ·exact .inl ⟨‹_›, (Option.some.inj hl).symm⟩
  ·exact .inr ⟨(h.hp.ob i o1 hl).1, hl⟩
 have hfoot : ∀ {i o1 g'}, i < s.nx → (foot (N.both s.nx g v) i o1 g' ↔ foot N i o1 g') := fun {i o1 g'} hi => foot_step st hi
 have fo : ∀ g', Foot (N.both s.nx g v) ((s.nx, some ob) :: s.o) g' → g' = g ∨ Foot N s.o g' := fun g' ⟨i, o1, hl, hf⟩ => by
  rcases cases hl with ⟨rfl, rfl⟩ | ⟨hi, hl⟩
  ·exact .inl (hft g' hf)
  ·exact .inr ⟨i, o1, hl, (hfoot hi).1 hf⟩
 have hp : HRel F (N.both s.nx g v) (s.nx + 1) ((s.nx, some ob) :: s.o) R := by
  refine ⟨h.hp.flt, fun i o1 hl => ?_, fun i o1 g' hl hf => ?_, fun i j x y g' hi hj hx hy => ?_, h.hp.gl⟩
  ·rcases cases hl with ⟨rfl, rfl⟩ | ⟨hi, hl⟩
   ·exact ⟨Nat.lt_succ_self _, hob⟩
   ·exact ⟨by omega, (h.hp.ob i o1 hl).2.step st hi fun _ _ => rfl⟩
  ·rcases cases hl with ⟨rfl, rfl⟩ | ⟨hi, hl⟩
   ·rw [hft g' hf]
    exact nF
   ·exact h.hp.ff i o1 g' hl ((hfoot hi).1 hf)
  ·rcases cases hi with ⟨rfl, rfl⟩ | ⟨hi1, hi2⟩
   ·rcases cases hj with ⟨rfl, rfl⟩ | ⟨hj1, hj2⟩
    ·rfl
    ·have := hft g' hx
     subst this
     exact absurd ⟨j, y, hj2, (hfoot hj1).1 hy⟩ nO
   ·rcases cases hj with ⟨rfl, rfl⟩ | ⟨hj1, hj2⟩
    ·have := hft g' hy
     subst this
     exact absurd ⟨i, x, hi2, (hfoot hi1).1 hx⟩ nO
    ·exact h.hp.sep i j x y g' hi2 hj2 ((hfoot hi1).1 hx) ((hfoot hj1).1 hy)
 refine ⟨⟨h.defers, h.size, fun u x hu => (h.slots u x hu).step st, hp, ?_, h.tm⟩, fo⟩
 have := h.st
 refine ⟨Nat.le_trans this.le (Nat.le_succ _), fun i hi => by rw [st.b i (Nat.lt_of_lt_of_le hi this.le)]; exact this.b i hi, fun i hi => by rw [st.q i (Nat.lt_of_lt_of_le hi this.le)]; exact this.q i hi, this.f, this.fnew, fun g' hf => ?_, this.os, this.tape, this.output, this.size, this.keep⟩
 rcases fo g' hf with q | q
 ·exact .inr (by omega)
 ·exact this.foot g' q
theorem mk_ok (h : Rel Z F N s a R) {o : Oper} {f : Eff} (he : mkE E s o = some f) : ∃ C ob x, f = ⟨x, s.nx + 1, (s.nx, some ob) :: s.o, 1, []⟩ ∧ (∀ w, (execOp a.eval o).run E.P w = .ok (.value (mkV o.op w.heap.size)) (w.alloc C)) ∧
  ∀ g, R.heap[g]? = some C → ObR F (N.both s.nx g (mkV o.op g)) (s.nx + 1) R s.nx ob ∧ Hv F (N.both s.nx g (mkV o.op g)) (s.nx + 1) R x (mkV o.op g) ∧ ∀ b, foot (N.both s.nx g (mkV o.op g)) s.nx ob b → b = g := by
 obtain ⟨dst, op, type, pos, after, guard⟩ := o
 unfold mkE at he
 simp only at he
 have hb : ∀ g v, (N.both s.nx g v).b s.nx = g := fun g v => setF_same _ _ _
 have hq : ∀ g v, (N.both s.nx g v).q s.nx = v := fun g v => setF_same _ _ _
 split at he <;> first | (cases he; done) | skip
 ·rename_i t len parts
  cases h0 : Nat.beq len 0 with
  | true => rw [h0] at he; cases he
  | false =>
  rw [h0, cond_false] at he
  unfold buildSlE at he
  split at he <;> first | (cases he; done) | skip
  rename_i e hu
  split at he <;> first | (cases he; done) | skip
  rename_i i hi
  split at he <;> first | (cases he; done) | skip
  rename_i z hz
  split at he <;> first | (cases he; done) | skip
  rename_i ps hps
  cases h1 : Nat.ble (len * i.size) 16777216 with
  | false => rw [h1] at he; cases he
  | true =>
  cases h2 : Nat.beq z.cells.size i.size with
  | false => rw [h1, h2] at he; cases he
  | true =>
  cases h3 : Nat.ble 1 i.size with
  | false => rw [h1, h2, h3] at he; cases he
  | true =>
   rw [h1, h2, h3] at he
   simp only [cond_true] at he
   split at he <;> first | (cases he; done) | skip
   rename_i cs hcs
   cases h4 : oneEls s.o (.lst (chunks i.size len cs)) with
   | false => rw [h4] at he; cases he
   | true =>
    rw [h4, h0] at he
    cases he
    have g1 := Nat.le_of_ble_eq_true h1
    have g2 := Nat.eq_of_beq_eq_true h2
    have g3 : 0 < i.size := Nat.le_of_ble_eq_true h3
    have hparts := partsE_ok h (gok_nil _) hps
    have hz0 : HL F N s.nx R (repL (toL z.cells.toList) len) (madeCells z.cells (len * i.size)).toList := by
     rw [← g2, madeCells_rep]
     exact repL_ok (HL.toL _) len
    obtain ⟨arr, q1, q2⟩ := fillA_ok hcs hparts hz0
    have hl : (parts.map fun (i, x) => (i, a.eval x)) = (parts.toList.map fun (i, x) => (i, a.eval x)).toArray := by rw [← Array.toList_map, Array.toArray_toList]
    have hasz : arr.size = len * i.size := by rw [fill_size q1, size_madeCells]
    have hn : (Els.lst (chunks i.size len cs)).n = len := chunks_length _ _ _
    have hmx : len ≤ maxLen := by
     have h5 : len ≤ len * i.size := Nat.le_mul_of_pos_right _ g3
     have hmx : maxLen = 9223372036854775807 := rfl
     omega
    refine ⟨.cells arr e (0, 0), .arr e i.size (.lst (chunks i.size len cs)), .sq s.nx, rfl, fun w => ?_, fun g hg => ⟨⟨arr.toList, ?_, fun k hk => ?_⟩, ?_, fun b hf => ?_⟩⟩
    ·have hrun := run_buildSl hu hi hz g1 q1 w
     rw [← hl] at hrun
     exact run_lift2 hrun
    ·rw [hq, hn]
     exact own_made (by rw [Array.length_toList, hasz]) hasz hmx (Nat.le_refl _) (List.take_of_length_le (by rw [Array.length_toList, hasz]; exact Nat.le_refl _)) hg
    ·rw [hn] at hk
     show HL F _ _ R (nthL (chunks i.size len cs) k) _
     rw [chunks_nth _ _ _ _ hk]
     exact ((q2.step both_ext).drop _).take _
    ·have : Hv F (N.both s.nx g (mkV (.buildSlice t len parts) g)) (s.nx + 1) R (.sq s.nx) ((N.both s.nx g (mkV (.buildSlice t len parts) g)).q s.nx) := .sq (Nat.lt_succ_self _)
     rw [hq] at this
     exact this
    ·have hf' : blkOf ((N.both s.nx g (mkV (.buildSlice t len parts) g)).q s.nx) = some b := hf
     rw [hq] at hf'
     unfold mkV at hf'
     cases len with
     | zero => cases hf'
     | succ n => cases hf'; rfl
 ·rename_i e v
  unfold boxE at he
  split at he <;> first | (cases he; done) | skip
  rename_i x hx
  split at he
  rotate_left
  ·split at he <;> first | (cases he; done) | skip
   rename_i xs hr
   cases he
   have hc := recOf_hw hr (ev_ok h (gok_nil _) hx).2
   refine ⟨.cells (a.eval v).cells.toList.toArray e (0, 0), .rcd e xs, .own s.nx 0, rfl, fun w => run_lift2 run_boxAt, fun g hg => ⟨⟨_, hc.step both_ext, ?_⟩, ?_, fun b hf => ?_⟩⟩
   ·rw [hb]; exact hg
   ·have : Hv F (N.both s.nx g (.pointer (some ⟨g, 0, none⟩))) (s.nx + 1) R (.own s.nx 0) (.pointer (some ⟨(N.both s.nx g (.pointer (some ⟨g, 0, none⟩))).b s.nx, 0, none⟩)) := .own (Nat.lt_succ_self _)
    rw [hb] at this
    exact this
   ·have hf' : b = (N.both s.nx g (mkV (.box e v) g)).b s.nx := hf
    rw [hb] at hf'
    exact hf'
  rename_i us hus
  cases hs : sqOk s.o us with
  | false => rw [hs] at he; cases he
  | true =>
   rw [hs] at he
   cases he
   have hc := cellsA_ok h.hp hus hs (ev_ok h (gok_nil _) hx).2
   refine ⟨.cells (a.eval v).cells.toList.toArray e (0, 0), .box e us, .own s.nx 0, rfl, fun w => run_lift2 run_boxAt, fun g hg => ⟨⟨_, hc.step both_ext, ?_⟩, ?_, fun b hf => ?_⟩⟩
   ·rw [hb]; exact hg
   ·have : Hv F (N.both s.nx g (.pointer (some ⟨g, 0, none⟩))) (s.nx + 1) R (.own s.nx 0) (.pointer (some ⟨(N.both s.nx g (.pointer (some ⟨g, 0, none⟩))).b s.nx, 0, none⟩)) := .own (Nat.lt_succ_self _)
    rw [hb] at this
    exact this
   ·have hf' : b = (N.both s.nx g (mkV (.box e v) g)).b s.nx := hf
    rw [hb] at hf'
    exact hf'
theorem mk_op {o : Oper} {f : Eff} (he : mkE E s o = some f) : opE E s [] o = some f ∧ o.guard = none ∧ loudB o.op = true ∧ mkB o = true := by
 obtain ⟨dst, op, type, pos, after, guard⟩ := o
 unfold mkE at he
 simp only at he
 split at he <;> first | (cases he; done) | exact ⟨he, rfl, rfl, rfl⟩ | exact ⟨bif_none he, rfl, rfl, rfl⟩
theorem mk_path {ops : List Oper} {o : Oper} {f : Eff} (he : mkE E s o = some f) (hp : isS (putE s o.dst f) = true) : ∃ s', putE s o.dst f = some s' ∧ ∀ {l : List Outc}, pathE E ops s o = some l → ∀ K : St → Prop, K s' → onL l K := by
 obtain ⟨h1, h2, h3, _⟩ := mk_op he
 cases hs : putE s o.dst f with
 | none => rw [hs] at hp; cases hp
 | some s' =>
  refine ⟨s', rfl, fun {l} hl K hK => ?_⟩
  have e2 : qstep E ops s o = none := by
   unfold qstep
   rw [h2]
   simp only
   unfold quietE
   rw [h3]
   rfl
  have e3 : ∃ k ps, step0 E ops s o = some [(none, k, s', ps)] := by
   unfold step0
   rw [h2]
   simp only
   unfold doE
   rw [h1]
   simp only
   rw [hs]
   exact ⟨_, _, rfl⟩
  obtain ⟨k, ps, e3⟩ := e3
  have e4 : pathP E ops s o = some (bump [(none, k, s', ps)]) := by
   unfold pathP
   rw [e2]
   simp only
   unfold stepE
   rw [e3]
  unfold pathE at hl
  rw [e4] at hl
  cases hl
  exact bump_onL (.inl ⟨rfl, hK⟩)
theorem onP_all {l : List Path} {s0 : St} {p : St → Bool} (h : onP l (fun x => x = s0)) (ha : (l.all fun cs => p cs.2) = true) : p s0 = true := by
 induction l with
 | nil => exact h.elim
 | cons x r ih =>
  obtain ⟨c, s⟩ := x
  rw [List.all_cons, Bool.and_eq_true] at ha
  rcases h with ⟨_, rfl⟩ | ⟨_, h⟩
  ·exact ha.1
  ·exact ih h ha.2
theorem onP_pick {K : St → Prop} : ∀ {l : List Path}, onP l K → ∃ s0, K s0 ∧ onP l (fun x => x = s0)
 | [], h => h.elim
 | (c, s) :: r, h => by
  rcases h with ⟨h1, h2⟩ | ⟨h1, h2⟩
  ·exact ⟨s, h2, .inl ⟨h1, rfl⟩⟩
  ·obtain ⟨s0, h3, h4⟩ := onP_pick h2
   exact ⟨s0, h3, .inr ⟨h1, h4⟩⟩
theorem evWays_pick {ops : List Oper} {o : Oper} {s0 : St} : ∀ {l l' : List Path} {k : Nat} {qs : List Prop}, evWays E ops o l = some (k, l', qs) → onP l (fun x => x = s0) → ∃ l1, pathE E ops s0 o = some l1 ∧ ∀ K, onL l1 K → onP l' K
 | [], _, _, _, _, h => h.elim
 | (c, s) :: r, l', k, qs, he, h => by
  unfold evWays at he
  split at he <;> first | (cases he; done) | skip
  rename_i l1 h1
  split at he <;> first | (cases he; done) | skip
  rename_i k' r' qs' h2
  cases he
  rcases h with ⟨hc, rfl⟩ | ⟨hc, h⟩
  ·exact ⟨l1, h1, fun K hK => onP_condC hc hK⟩
  ·obtain ⟨l2, h3, h4⟩ := evWays_pick h2 h
   exact ⟨l2, h3, fun K hK => onP_skipC hc (h4 K hK)⟩
theorem early_ok0 {o : Oper} (h : earlyO E.P o = true) : ∃ e z, o.op = .alloc e ∧ o.guard = none ∧ (E.P.info? e).bind (·.zero) = some z := by
 unfold earlyO at h
 split at h
 ·rename_i e h1 h2
  split at h
  ·rename_i z hz
   exact ⟨e, z, h1, h2, hz⟩
  ·cases h
 ·cases h
theorem early_ok {o : Oper} (h : earlyE E o = true) : (∃ e z, o.op = .alloc e ∧ o.guard = none ∧ (E.P.info? e).bind (·.zero) = some z) ∨ ∃ g x args ts, o.op = .call { callee := .value (.func g), args := args, argTypes := ts } ∧ o.guard = none ∧ closedC E (.func g) args.toList = some (g, x) := by
 unfold earlyE at h
 cases h0 : earlyO E.P o with
 | true => exact .inl (early_ok0 h0)
 | false =>
  rw [h0, cond_false] at h
  split at h <;> first | (cases h; done) | skip
  rename_i f args ts h1 h2
  split at h <;> first | (cases h; done) | skip
  rename_i y hy
  obtain ⟨g, x⟩ := y
  obtain ⟨rfl, _⟩ := closedC_is hy
  exact .inr ⟨g, x, args, ts, h1, h2, hy⟩
theorem closed_path {ops : List Oper} {o : Oper} {g : FuncId} {x : A} {args : Array Operand} {ts : Array TypeId} (ho : o.op = .call { callee := .value (.func g), args := args, argTypes := ts }) (hg : o.guard = none) (hc : closedC E (.func g) args.toList = some (g, x)) {l : List Outc} (he : pathE E ops s o = some l) :
  ∃ s', putE s o.dst ⟨x, s.nx, s.o, 1, []⟩ = some s' ∧ ∀ K : St → Prop, K s' → onL l K := by
 obtain ⟨dst, op, type, pos, after, guard⟩ := o
 simp only at ho hg
 subst ho hg
 have e1 : opE E s [] ⟨dst, .call { callee := .value (.func g), args := args, argTypes := ts }, type, pos, after, none⟩ = some ⟨x, s.nx, s.o, 1, []⟩ := by
  show (match callE E s [] (.func g) args.toList with
   | some (x, ps) => some (Eff.mk x s.nx s.o 0 ps)
   | none => callEff E s [] (.func g) args.toList) = _
  unfold callE callEff
  rw [hc]
 have e2 : qstep E ops s ⟨dst, .call { callee := .value (.func g), args := args, argTypes := ts }, type, pos, after, none⟩ = none := by
  have : quietE E s [] ⟨dst, .call { callee := .value (.func g), args := args, argTypes := ts }, type, pos, after, none⟩ = none := by
   show callE E s [] (.func g) args.toList = _
   unfold callE
   rw [hc]
  unfold qstep
  simp only
  rw [this]
 have hcand : candE s ⟨dst, .call { callee := .value (.func g), args := args, argTypes := ts }, type, pos, after, none⟩ = [] := by
  obtain ⟨_, ha, _⟩ := closedC_is hc
  unfold candE
  simp only
  rw [ha]
  rfl
 cases hp : putE s dst ⟨x, s.nx, s.o, 1, []⟩ with
 | none =>
  have e3 : step0 E ops s ⟨dst, .call { callee := .value (.func g), args := args, argTypes := ts }, type, pos, after, none⟩ = none := by
   unfold step0 doE
   simp only
   rw [e1]
   simp only
   rw [hp]
  have e4 : pathP E ops s ⟨dst, .call { callee := .value (.func g), args := args, argTypes := ts }, type, pos, after, none⟩ = none := by
   unfold pathP
   rw [e2]
   simp only
   unfold stepE
   rw [e3, hcand]
   rfl
  unfold pathE at he
  rw [e4] at he
  cases he
 | some s' =>
  have e3 : step0 E ops s ⟨dst, .call { callee := .value (.func g), args := args, argTypes := ts }, type, pos, after, none⟩ = some [(none, 1, s', [])] := by
   unfold step0 doE
   simp only
   rw [e1]
   simp only
   rw [hp]
   rfl
  have e4 : pathP E ops s ⟨dst, .call { callee := .value (.func g), args := args, argTypes := ts }, type, pos, after, none⟩ = some (bump [(none, 1, s', [])]) := by
   unfold pathP
   rw [e2]
   simp only
   unfold stepE
   rw [e3]
  unfold pathE at he
  rw [e4] at he
  cases he
  exact ⟨s', rfl, fun K hK => .inl ⟨rfl, hK⟩⟩
theorem early_path {ops : List Oper} {o : Oper} {e : TypeId} {z : Value} (ho : o.op = .alloc e) (hg : o.guard = none) (hz : (E.P.info? e).bind (·.zero) = some z) {l : List Outc} (he : pathE E ops s o = some l) :
  ∃ s', putE s o.dst ⟨.own s.nx 0, s.nx + 1, (s.nx, some (.box e (toL z.cells.toList))) :: s.o, 1, []⟩ = some s' ∧ ∀ K : St → Prop, K s' → onL l K := by
 obtain ⟨dst, op, type, pos, after, guard⟩ := o
 simp only at ho hg
 subst ho hg
 have e1 : opE E s [] ⟨dst, .alloc e, type, pos, after, none⟩ = some ⟨.own s.nx 0, s.nx + 1, (s.nx, some (.box e (toL z.cells.toList))) :: s.o, 1, []⟩ := by
  show allocE E s e = _
  unfold allocE
  rw [hz]
 have e2 : qstep E ops s ⟨dst, .alloc e, type, pos, after, none⟩ = none := rfl
 cases hp : putE s dst ⟨.own s.nx 0, s.nx + 1, (s.nx, some (.box e (toL z.cells.toList))) :: s.o, 1, []⟩ with
 | none =>
  have e3 : step0 E ops s ⟨dst, .alloc e, type, pos, after, none⟩ = none := by
   unfold step0 doE
   simp only
   rw [e1]
   simp only
   rw [hp]
  have e4 : pathP E ops s ⟨dst, .alloc e, type, pos, after, none⟩ = none := by
   unfold pathP
   rw [e2]
   simp only
   unfold stepE
   rw [e3]
   rfl
  unfold pathE at he
  rw [e4] at he
  cases he
 | some s' =>
  have e3 : step0 E ops s ⟨dst, .alloc e, type, pos, after, none⟩ = some [(none, 1, s', [])] := by
   unfold step0 doE
   simp only
   rw [e1]
   simp only
   rw [hp]
   rfl
  have e4 : pathP E ops s ⟨dst, .alloc e, type, pos, after, none⟩ = some (bump [(none, 1, s', [])]) := by
   unfold pathP
   rw [e2]
   simp only
   unfold stepE
   rw [e3]
  unfold pathE at he
  rw [e4] at he
  cases he
  exact ⟨s', rfl, fun K hK => bump_onL (.inl ⟨rfl, hK⟩)⟩
theorem region_ok (ok : EnvOk E) (h : Rel Z F N s a R) {id : Nat} {ops : List Oper} {draw : Bool} (hW : ∀ u, inW u (dstL ops) = true → Z.W u) {s' : St} {ps : List Prop} (he : evR E ops draw s = some (s', ps)) (hp : ∀ p ∈ ps, p) {Q : Exit → Act → World → Prop}
  (hk : ∀ F' N' a' R', Rel Z F' N' s' a' R' → Q .normal a' R') : (Code.region id ops.toArray draw).wp E.P Q a R := by
 have h00 : onP [((none : Cnd), s)] (At (midB F N s a R (dstL ops)) a R) := .inl ⟨rfl, F, N, h.start _⟩
 have hsub : subP s [((none : Cnd), s)] := ⟨Sub.refl _, trivial⟩
 have hdst : ∀ o ∈ ops, ∀ d, o.dst = some d → (midB F N s a R (dstL ops)).W d := fun o ho d hd => dstL_mem ho hd
 have fin : ∀ {l : List Path} {a' R'}, subP s l → onP l (At (midB F N s a R (dstL ops)) a' R') → s' = mergeP (dstL ops) s l → Q .normal a' R' := fun {l a' R'} hs ho e => by
  obtain ⟨F', N', hr⟩ := mergeP_ok h hs ho
  subst e
  exact hk F' N' a' R' (h.over hr hW)
 cases draw with
 | false =>
  unfold evR at he
  simp only at he
  split at he <;> first | (cases he; done) | skip
  rename_i l ps1 h1
  cases he
  exact wp_region_lit (ops_ok ok hdst h00 h1 hp fun a' R' ho => fin (evOps_sub ok h1 hsub) ho rfl)
 | true =>
  have he' : ∃ order, evO E ops order s = some (s', ps) := by
   unfold evR at he
   simp only at he
   split at he
   ·rename_i r hr
    cases he
    exact ⟨_, hr⟩
   ·exact ⟨_, he⟩
  clear he
  obtain ⟨order, he⟩ := he'
  unfold evO at he
  split at he <;> first | (cases he; done) | skip
  rename_i ks l ps1 h1
  cases hB' : canonB ops.toArray order ks (earlyK E ops order [(none, s)]) (fun j k => moveB ops order j || commK E ops order [(none, s)] j k) && eopB ops.toArray order (earlyK E ops order [(none, s)]) with
  | false => rw [hB'] at he; cases he
  | true =>
   rw [hB'] at he
   cases he
   obtain ⟨hB, hEop⟩ := Bool.and_eq_true_iff.1 hB'
   obtain ⟨hc, hn, hsink⟩ := canonB_ok hB
   obtain ⟨hF, hat⟩ := evK_at h1
   let Z0 := midB F N s a R (dstL ops)
   have hov : ∀ {F1 N1 s0 A w F2 N2 s1 A2 w2}, Rel Z0 F1 N1 s0 A w → Rel (midB F1 N1 s0 A w (dstL ops)) F2 N2 s1 A2 w2 → Rel Z0 F2 N2 s1 A2 w2 := fun h1 h2 => h1.over h2 fun _ hu => hu
   have hearly : ∀ {k o}, earlyK E ops order [(none, s)] k = true → ops[order.getD k 0]? = some o → earlyE E o = true ∨ (mkB o = true ∧ preB E ops order [(none, s)] k o = true) := fun {k o} h1 h2 => by
    unfold earlyK at h1
    rw [h2] at h1
    simp only at h1
    cases h3 : earlyE E o with
    | true => exact .inl rfl
    | false =>
     rw [h3, cond_false] at h1
     cases h4 : mkB o with
     | true => rw [h4] at h1; exact .inr ⟨rfl, h1⟩
     | false => rw [h4] at h1; cases h1
   refine wp_canon (S := fun k X A w => ∃ l1, stK E ops order [((none : Cnd), s)] k = some l1 ∧ ∃ s0 F1 N1, Rel Z0 F1 N1 s0 A w ∧ Rsv E ops order Z0.R.heap.size k X A F1 N1 s0.o w ∧ onP l1 (fun x => x = s0)) ok.wide hc ?_ ?_ (fun j k o o' d q1 q2 q3 q4 q5 q6 => eopB_ok hEop j k o o' d q1 q2 q3 q4 q5 q6) ?_ ?_ (fun k X A w w' ⟨l1, g1, s0, F1, N1, g2, g3, g4⟩ hb => ⟨l1, g1, s0, F1, N1, g2.grow hb, rsv_grow g3 hb, g4⟩) ⟨_, stK_zero, s, F, N, h.start _, ⟨fun _ _ => False, fun j v _ hx => (by cases hx), fun i j u v b _ _ hx => (by cases hx)⟩, .inl ⟨rfl, rfl⟩⟩ (fun X A w' ⟨l1, g1, s0, F1, N1, g2, g3, g4⟩ => ?_)
   ·intro k X A w hk' hM ⟨l0, g1, s0, F1, N1, g2, g3, g4⟩ o ho
    obtain ⟨l1, o1, l2, ps2, e1, e2, e4, e5, e6⟩ := hat k hk'
    have ho' : ops[order.getD k 0]? = some o := by simpa using ho
    have : o1 = o := Option.some.inj (e1.symm.trans ho')
    subst this
    obtain rfl : l1 = l0 := Option.some.inj (e2.symm.trans g1)
    have hk0 : ks.getD k 0 = 0 := by
     have hM' : Nat.blt 0 (ks.getD k 0) = false := hM
     cases hz : ks.getD k 0 with
     | zero => rfl
     | succ m => rw [hz] at hM'; cases hM'
    rw [hk0] at e4
    obtain ⟨v, r1, r2⟩ := evWays_quiet (Z := midB F1 N1 s0 A w (dstL ops)) ok (hdst o1 (List.mem_of_getElem? ho')) e4 (fun p hm => hp p (e5 p hm)) (onP_mono (fun x hx => by subst hx; exact ⟨F1, N1, g2.start _⟩) g4)
    obtain ⟨s1, ⟨F2, N2, q1⟩, q2⟩ := onP_pick r1
    exact ⟨v, ⟨l2, e6, s1, F2, N2, hov g2 q1, rsv_step (rsv_put g3 ho' v) q1.st, q2⟩, r2⟩
   ·intro k X A w v hk' hE hX ⟨l0, g1, s0, F1, N1, g2, g3, g4⟩ o ho
    obtain ⟨l1, o1, l2, ps2, e1, e2, e4, e5, e6⟩ := hat k hk'
    have ho' : ops[order.getD k 0]? = some o := by simpa using ho
    have : o1 = o := Option.some.inj (e1.symm.trans ho')
    subst this
    obtain rfl : l1 = l0 := Option.some.inj (e2.symm.trans g1)
    obtain ⟨G, gA, gB⟩ := g3
    obtain ⟨b0, b5⟩ := gA k v (Nat.le_refl _) hX
    have rest : ∀ {F2 : Nat → Prop} {N2 : Nm} {o2 : Objs}, (∀ b, F2 b → F1 b ∨ G k b) → (∀ b, Foot N2 o2 b → Foot N1 s0.o b ∨ G k b) → Rsv E ops order Z0.R.heap.size (k + 1) X (A.put o1.dst v) F2 N2 o2 w := fun {F2 N2 o2} q1 q2 => by
     refine ⟨G, fun j v' hj hx => ?_, fun i j u v' b hi hj => gB i j u v' b (by omega) (by omega)⟩
     obtain ⟨r1, r2⟩ := gA j v' (by omega) hx
     refine ⟨rsvK_put r1 (by omega) ho', fun b hb => ?_⟩
     obtain ⟨t1, t2, t3, t4⟩ := r2 b hb
     have hne : ¬ G k b := fun hk => by
      have := gB k j _ _ b (Nat.le_refl _) (by omega) hX hx hk hb
      omega
     exact ⟨t1, t2, fun hf => (q1 b hf).elim t3 hne, fun hf => (q2 b hf).elim t4 hne⟩
    rcases hearly hE ho' with hE1 | ⟨hE1, hE2⟩
    rcases early_ok hE1 with ⟨e, z, a1, a2, a3⟩ | ⟨f, x, args, ts, a1, a2, a3⟩
    ·rcases b0 with ⟨g, e', z', b1, ⟨op, b2, b3⟩, b4, b6, b9⟩ | ⟨_, _, _, _, _, ⟨op, b2, b3⟩, _⟩ | ⟨_, _, op, b2, b3, _⟩
     ·have : op = o1 := Option.some.inj (b2.symm.trans ho')
      subst this
      rw [a1] at b3
      cases b3
      obtain rfl : z' = z := Option.some.inj (b4.symm.trans a3)
      obtain ⟨l3, c1, c2⟩ := evWays_pick e4 g4
      obtain ⟨s1, c3, c4⟩ := early_path a1 a2 a3 c1
      obtain ⟨t1, t2, t3, t4⟩ := b5 g ((b6 g).2 rfl)
      obtain ⟨d1, d2, d3⟩ := use_rel g2 t1 t2 t3 t4 b9
      subst b1
      have hrel : Rel Z0 F1 (N1.setB s0.nx g) s1 (A.put op.dst (.pointer (some ⟨g, 0, none⟩))) w ∧ s1.o = (s0.nx, some (.box e (toL z'.cells.toList))) :: s0.o := by
       unfold putE at c3
       split at c3
       ·rename_i d hd
        cases hb : Nat.blt d s0.n with
        | false => rw [hb] at c3; cases c3
        | true =>
         rw [hb] at c3
         cases c3
         rw [hd]
         exact ⟨d1.put (x := .own s0.nx 0) (Nat.le_of_ble_eq_true hb) (hdst op (List.mem_of_getElem? ho') d hd) _ ((HS_plain rfl).2 d2), rfl⟩
       ·rename_i hd
        cases c3
        rw [hd]
        exact ⟨d1, rfl⟩
      refine ⟨l2, e6, s1, F1, N1.setB s0.nx g, hrel.1, rest (fun b hb => .inl hb) (fun b hb => ?_), c2 _ (c4 (fun x => x = s1) rfl)⟩
      rw [hrel.2] at hb
      rcases d3 b hb with q | q
      ·exact .inr ((b6 b).2 q)
      ·exact .inl q
     ·have : op = o1 := Option.some.inj (b2.symm.trans ho')
      subst this
      rw [a1] at b3
      cases b3
     ·have : op = o1 := Option.some.inj (b2.symm.trans ho')
      subst this
      unfold mkB at b3
      rw [a1] at b3
      cases b3
    ·rcases b0 with ⟨g, e', z', b1, ⟨op, b2, b3⟩, b4, b6, b9⟩ | ⟨f', x', args', ts', N0, ⟨op, b2, b3⟩, b4, b6⟩ | ⟨_, _, op, b2, b3, _⟩
     ·have : op = o1 := Option.some.inj (b2.symm.trans ho')
      subst this
      rw [a1] at b3
      cases b3
     ·have : op = o1 := Option.some.inj (b2.symm.trans ho')
      subst this
      rw [a1] at b3
      cases b3
      obtain rfl : x' = x := congrArg Prod.snd (Option.some.inj (b4.symm.trans a3))
      obtain ⟨l3, c1, c2⟩ := evWays_pick e4 g4
      obtain ⟨s1, c3, c4⟩ := closed_path a1 a2 a3 c1
      obtain ⟨_, _, _, hfree, _⟩ := closedC_is a3
      obtain ⟨d1, d2⟩ := use_free g2 b5 b6 hfree
      have hrel : Rel Z0 (fun b => F1 b ∨ G k b) N1 s1 (A.put op.dst v) w ∧ s1.o = s0.o := by
       unfold putE at c3
       split at c3
       ·rename_i d hd
        cases hb : Nat.blt d s0.n with
        | false => rw [hb] at c3; cases c3
        | true =>
         rw [hb] at c3
         cases c3
         rw [hd]
         exact ⟨d1.put (x := x') (Nat.le_of_ble_eq_true hb) (hdst op (List.mem_of_getElem? ho') d hd) _ ((HS_plain d2.isPlain).2 d2), rfl⟩
       ·rename_i hd
        cases c3
        rw [hd]
        exact ⟨d1, rfl⟩
      refine ⟨l2, e6, s1, _, N1, hrel.1, rest (fun b hb => hb) (fun b hb => ?_), c2 _ (c4 (fun x => x = s1) rfl)⟩
      rw [hrel.2] at hb
      exact .inl hb
     ·have : op = o1 := Option.some.inj (b2.symm.trans ho')
      subst this
      unfold mkB at b3
      rw [a1] at b3
      cases b3
    ·-- what was made of values
     rcases b0 with ⟨g, e', z', b1, ⟨op, b2, b3⟩, b4, b6, b9⟩ | ⟨_, _, _, _, _, ⟨op, b2, b3⟩, _⟩ | ⟨g, C, op, b2, b3, b4, b6, b7, b8, _⟩
     ·have : op = o1 := Option.some.inj (b2.symm.trans ho')
      subst this
      unfold mkB at hE1
      rw [b3] at hE1
      cases hE1
     ·have : op = o1 := Option.some.inj (b2.symm.trans ho')
      subst this
      unfold mkB at hE1
      rw [b3] at hE1
      cases hE1
     ·have : op = o1 := Option.some.inj (b2.symm.trans ho')
      subst this
      unfold preB at hE2
      rw [g1] at hE2
      have hput : putP E op l1 = true := (Bool.and_eq_true_iff.1 hE2).1
      have hput' := onP_all (p := fun s => match mkE E s op with
       | some f => isS (putE s op.dst f)
       | none => false) g4 hput
      split at hput' <;> first | (cases hput'; done) | skip
      rename_i f hf
      obtain ⟨s1, c3, c4⟩ := mk_path (ops := ops) hf hput'
      obtain ⟨l3, c1, c2⟩ := evWays_pick e4 g4
      obtain ⟨C', ob, x, rfl, m2, m3⟩ := mk_ok g2 hf
      obtain rfl : C' = C := by
       have h1 := m2 w
       rw [b4 w] at h1
       injection h1 with _ h1
       have h2 := congrArg World.heap h1
       have h3 : w.heap.push C = w.heap.push C' := h2
       exact ((Array.push_eq_push.1 h3).1).symm
      obtain ⟨t1, t2, t3, t4⟩ := b5 g ((b7 g).2 rfl)
      obtain ⟨m4, m5, m6⟩ := m3 g b8
      obtain ⟨d1, d3⟩ := use_mk g2 t1 t3 t4 m4 m6
      subst b6
      have hrel : Rel Z0 F1 (N1.both s0.nx g (mkV op.op g)) s1 (A.put op.dst (mkV op.op g)) w ∧ s1.o = (s0.nx, some ob) :: s0.o := by
       unfold putE at c3
       split at c3
       ·rename_i d hd
        cases hb : Nat.blt d s0.n with
        | false => rw [hb] at c3; cases c3
        | true =>
         rw [hb] at c3
         cases c3
         rw [hd]
         exact ⟨d1.put (x := x) (Nat.le_of_ble_eq_true hb) (hdst op (List.mem_of_getElem? ho') d hd) _ ((HS_plain m5.isPlain).2 m5), rfl⟩
       ·rename_i hd
        cases c3
        rw [hd]
        exact ⟨d1, rfl⟩
      refine ⟨l2, e6, s1, F1, _, hrel.1, rest (fun b hb => .inl hb) (fun b hb => ?_), c2 _ (c4 c1 (fun x => x = s1) rfl)⟩
      rw [hrel.2] at hb
      rcases d3 b hb with q | q
      ·exact .inr ((b7 b).2 q)
      ·exact .inl q
   ·intro p k X A w hpk hk' hE ⟨l0, g1, s0, F1, N1, g2, g3, g4⟩ o ho hnw A' hA'
    have ho' : ops[order.getD k 0]? = some o := by simpa using ho
    obtain ⟨G, gA, gB⟩ := g3
    -- what is new lies behind all that was
    have more : ∀ {v : Value} {w' : World} {H : Nat → Prop}, Below w.heap.size w w' → RsvK E ops order p A k v H w' → (∀ b, H b → w.heap.size ≤ b ∧ b < w'.heap.size) → Rsv E ops order Z0.R.heap.size p (X.set k v) A F1 N1 s0.o w' := fun {v w' H} hb hK hH => by
     refine ⟨fun j b => if j = k then H b else G j b, fun j v' hj hx => ?_, fun i j u v' b hi hj hx hy p1' p2' => ?_⟩
     ·by_cases ej : j = k
      ·subst ej
       have hx' : some v = some v' := by
        unfold Aside.set at hx
        rw [if_pos rfl] at hx
        exact hx
       cases hx'
       refine ⟨by simp only [if_true]; exact hK, fun b hb2 => ?_⟩
       simp only [if_true] at hb2
       obtain ⟨r1, r2⟩ := hH b hb2
       refine ⟨Nat.le_trans g2.st.size r1, r2, fun hf => ?_, fun ⟨i, ob, hl, hf⟩ => ?_⟩
       ·have := g2.hp.flt b hf
        omega
       ·have := (g2.hp.ob i ob hl).2.lt hf
        omega
      ·unfold Aside.set at hx
       rw [if_neg ej] at hx
       obtain ⟨q1, q2⟩ := gA j v' hj hx
       simp only [if_neg ej]
       refine ⟨rsvK_keep q1 fun b hb2 => hb.block b (q2 b hb2).2.1, fun b hb2 => ?_⟩
       obtain ⟨t1, t2, t3, t4⟩ := q2 b hb2
       exact ⟨t1, Nat.lt_of_lt_of_le t2 hb.size, t3, t4⟩
     ·have p1 : (if i = k then H b else G i b) := p1'
      have p2 : (if j = k then H b else G j b) := p2'
      have old : ∀ {i u}, i ≠ k → p ≤ i → (X.set k v) i = some u → G i b → b < w.heap.size := fun {i u} hne hi hx hg => by
       unfold Aside.set at hx
       rw [if_neg hne] at hx
       exact ((gA i u hi hx).2 b hg).2.1
      by_cases ei : i = k
      ·by_cases ej : j = k
       ·rw [ei, ej]
       ·rw [if_pos ei] at p1
        rw [if_neg ej] at p2
        have := (hH b p1).1
        have := old ej hj hy p2
        omega
      ·by_cases ej : j = k
       ·rw [if_neg ei] at p1
        rw [if_pos ej] at p2
        have := (hH b p2).1
        have := old ei hi hx p1
        omega
       ·rw [if_neg ei] at p1
        rw [if_neg ej] at p2
        unfold Aside.set at hx hy
        rw [if_neg ei] at hx
        rw [if_neg ej] at hy
        exact gB i j u v' b hi hj hx hy p1 p2
    rcases hearly hE ho' with hE1 | ⟨hE1, hE2⟩
    rcases early_ok hE1 with ⟨e, z, a1, a2, a3⟩ | ⟨f, x, args, ts, a1, a2, a3⟩
    ·refine ⟨wanted_none a2 _, ?_⟩
     have hrun : (execOp A'.eval o).run E.P w = .ok (.value (.pointer (some ⟨w.heap.size, 0, none⟩))) (w.alloc (.cells z.cells.toList.toArray e (0, 0))) := by
      obtain ⟨dst, op, type, pos, after, guard⟩ := o
      simp only at a1
      subst a1
      exact run_lift2 (run_allocAt a3)
     rw [hrun]
     have hb : Below w.heap.size w (w.alloc (.cells z.cells.toList.toArray e (0, 0))) := below_alloc _
     exact ⟨hb, l0, g1, s0, F1, N1, g2.grow hb, more (H := fun b => b = w.heap.size) hb (.inl ⟨w.heap.size, e, z, rfl, ⟨o, ho', a1⟩, a3, fun _ => Iff.rfl, heap_alloc_new w _⟩) (fun b e => by rw [e]; exact ⟨Nat.le_refl _, by simp⟩), g4⟩
    ·refine ⟨wanted_none a2 _, ?_⟩
     obtain ⟨_, ha, hgo, hfree, k1, hk1, hC⟩ := closedC_is a3
     rw [closed_run a1 ha hgo A' w]
     refine (ok.C _ _ _ _ _ _ _ _ _ hC (fun p hm => by cases hm) (fun _ => False) N1 w [] ⟨fun _ h => h.elim, fun i ob hi => (by cases hi), fun i ob g hi => (by cases hi), fun i j x y g hi => (by cases hi), fun x hx => (by rw [closedC_gl a3] at hx; cases hx)⟩ HL.nil).mono fun e R' ⟨y, F', N', e1, e2, e3, e4, e5⟩ => ⟨y, e1, ?_⟩
     have hb := e5 hk1
     exact ⟨hb, l0, g1, s0, F1, N1, g2.grow hb, more hb (.inr (.inl ⟨f, x, args, ts, N', ⟨o, ho', a1⟩, a3, e4⟩)) (fun b hb2 => ⟨by
      rcases e3.fnew b hb2 with q | ⟨i, ob, hi, _⟩ | q
      ·exact q.elim
      ·cases hi
      ·exact q, e2.flt b hb2⟩), g4⟩
    ·have hnwb : noWrB ops order p k o = true := by
      unfold noWrB
      refine List.all_eq_true.2 fun i hi => ?_
      have hi' := List.mem_range.1 hi
      cases ho2 : ops[order.getD (p + i) 0]? with
      | none => rfl
      | some o' =>
       simp only
       cases hd : o'.dst with
       | none => rfl
       | some d =>
        have := hnw (p + i) (by omega) (by omega) o' d (by simpa using ho2) hd
        simp only [Bool.not_eq_true', List.contains_eq_mem]
        simpa using this
     unfold preB at hE2
     have h7 := List.all_eq_true.1 (Bool.and_eq_true_iff.1 hE2).2 p (List.mem_range.2 (by omega))
     rw [hnwb, g1, Bool.not_true, Bool.false_or] at h7
     have h8 := onP_all (p := fun s => isS (mkE E s o)) g4 h7
     cases hf : mkE E s0 o with
     | none => simp only [hf] at h8; cases h8
     | some f =>
      obtain ⟨C, ob, x, _, m2, _⟩ := mk_ok g2 hf
      obtain ⟨_, n2, _, _⟩ := mk_op hf
      refine ⟨wanted_none n2 _, ?_⟩
      rw [execOp_slots (a := A) (a' := A') (ops := ops.toArray) o (mkB_sel hE1) hA', m2 w]
      have hb : Below w.heap.size w (w.alloc C) := below_alloc _
      exact ⟨hb, l0, g1, s0, F1, N1, g2.grow hb, more (H := fun b => b = w.heap.size) hb (.inr (.inr ⟨w.heap.size, C, o, ho', hE1, m2, rfl, fun _ => Iff.rfl, heap_alloc_new w _, hnw⟩)) (fun b e => by rw [e]; exact ⟨Nat.le_refl _, by simp⟩), g4⟩
   ·intro k X A w hk' hM hE ⟨l0, g1, s0, F1, N1, gr, gx, g4⟩ o ho
    have g2 : onP l0 (At Z0 A w) := onP_mono (fun x hx => by subst hx; exact ⟨F1, N1, gr⟩) g4
    have hstep : ∀ {l2 : List Path} {A2 w2}, Rsv E ops order Z0.R.heap.size (k + 1) X A2 F1 N1 s0.o w → stK E ops order [((none : Cnd), s)] (k + 1) = some l2 → onP l2 (At (midB F1 N1 s0 A w (dstL ops)) A2 w2) → ∃ l1, stK E ops order [((none : Cnd), s)] (k + 1) = some l1 ∧ ∃ s0 F1 N1, Rel Z0 F1 N1 s0 A2 w2 ∧ Rsv E ops order Z0.R.heap.size (k + 1) X A2 F1 N1 s0.o w2 ∧ onP l1 (fun x => x = s0) := fun {l2 A2 w2} hx e6 r1 => by
     obtain ⟨s1, ⟨F2, N2, q1⟩, q2⟩ := onP_pick r1
     exact ⟨l2, e6, s1, F2, N2, hov gr q1, rsv_step hx q1.st, q2⟩
    obtain ⟨l1, o1, l2, ps2, e1, e2, e4, e5, e6⟩ := hat k hk'
    have ho' : ops[order.getD k 0]? = some o := by simpa using ho
    have : o1 = o := Option.some.inj (e1.symm.trans ho')
    subst this
    obtain rfl : l1 = l0 := Option.some.inj (e2.symm.trans g1)
    rcases evWays_ok (Z := midB F1 N1 s0 A w (dstL ops)) ok (hdst o1 (List.mem_of_getElem? ho')) e4 (fun p hm => hp p (e5 p hm)) (onP_mono (fun x hx => by subst hx; exact ⟨F1, N1, gr.start _⟩) g4) with ⟨r1, r2⟩ | ⟨r1, r2⟩
    ·by_cases hex : 1 < ks.getD k 0 ∧ ∃ j, j < k ∧ commK E ops order [(none, s)] j k = true
     ·have hcm : ∀ j, j < k → commK E ops order [(none, s)] j k = true → ∃ o t x w' y, ops[order.getD j 0]? = some o ∧ o.op = .load t x ∧ (∀ V, canA ops.toArray (fun k => order.getD k 0) a V k = A → (canA ops.toArray (fun k => order.getD k 0) a V j).eval x = A.eval x) ∧ (execOp A.eval o1).run E.P w = .ok .skip w' ∧ (Instr.loadAt t (A.eval x)).run E.P w = .ok y w ∧
        ∀ w1, Below w'.heap.size w' w1 → (Instr.loadAt t (A.eval x)).run E.P w1 = .ok y w1 := fun j hj hc => by
       unfold commK at hc
       split at hc <;> first | (cases hc; done) | skip
       rename_i oj o1' l1' hoj ho1 hl1
       obtain rfl : o1' = o1 := Option.some.inj (ho1.symm.trans ho')
       obtain rfl : l1' = l1 := Option.some.inj (hl1.symm.trans g1)
       cases hcl : commL E oj o1' l1' with
       | false => rw [hcl] at hc; cases hc
       | true =>
        rw [hcl] at hc
        simp only [cond_true] at hc
        obtain ⟨s1, F1, N1, hr1, hp1⟩ := commL_at hcl g2
        obtain ⟨t, x, w', y, c1, c2, c3, c4, c5⟩ := comm_ok hr1 hp1
        refine ⟨oj, t, x, w', y, hoj, c1, fun V hV => ?_, c3, c4, c5⟩
        rw [c1] at hc
        cases x <;> first | (cases hc; done) | skip
        rename_i x
        have hkeep := canA_keep (ops := ops.toArray) (ix := fun k => order.getD k 0) (a0 := a) (V := V) (x := x) (j := j) (k - j) fun i hi o ho => by
         have h7 := List.all_eq_true.1 hc i (List.mem_range.2 hi)
         have ho2 : ops[order.getD (j + i) 0]? = some o := by simpa using ho
         rw [ho2] at h7
         intro hd
         simp only [hd] at h7
         simp at h7
        rw [show j + (k - j) = k by omega, hV] at hkeep
        exact hkeep.symm
      obtain ⟨hk2, j0, hj0, hc0⟩ := hex
      obtain ⟨_, _, _, w', _, _, _, _, hrun, _, _⟩ := hcm j0 hj0 hc0
      have r2' := r2
      rw [hrun] at r2'
      obtain ⟨_, q2⟩ := r2'
      refine .inl ⟨r1, ?_⟩
      rw [hrun]
      refine ⟨.inr fun j hj => ?_, hstep (rsv_put gx ho' _) e6 q2⟩
      ·rcases hsink k hk' (Nat.ble_eq_true_of_le hk2) j hj with h8 | h8
       ·exact .inl h8
       ·rcases Bool.or_eq_true_iff.1 h8 with h8 | h8
        ·exact .inr fun V _ hpend => pend_move h8 hpend
        obtain ⟨o, t, x, w'', y, d1, d2, d3, d4, d5, d6⟩ := hcm j hj h8
        obtain rfl : w'' = w' := by rw [hrun] at d4; injection d4 with _ d4; exact d4.symm
        refine .inr fun V hV hpend o2 ho2 => ?_
        have ho3 : ops[order.getD j 0]? = some o2 := by simpa using ho2
        obtain rfl : o = o2 := Option.some.inj (d1.symm.trans ho3)
        have hex : ∀ w1, (execOp (canA ops.toArray (fun k => order.getD k 0) a V j).eval o).run E.P w1 = (do pure (.value (← Instr.loadAt t (A.eval x))) : Sem Next).run E.P w1 := fun w1 => by
         obtain ⟨dst, op, type, pos, after, guard⟩ := o
         simp only at d2
         subst d2
         show (do pure (.value (← Instr.loadAt t (Act.eval (canA ops.toArray (fun k => order.getD k 0) a V j) x))) : Sem Next).run E.P w1 = _
         rw [d3 V hV]
        rcases hpend o ho2 with ⟨p1, p2⟩ | ⟨p1, p2⟩
        ·refine .inl ⟨p1, fun w1 hw1 => ?_⟩
         have p3 := p2 w (Below.refl _ _)
         rw [hex, Sem.run_bind, d5] at p3
         rw [hex, Sem.run_bind, d6 w1 hw1]
         obtain ⟨_, p4⟩ := p3
         exact ⟨rfl, p4⟩
        ·exact .inr ⟨p1, p2⟩
     ·refine .inl ⟨r1, uponV_mono r2 fun v w' ⟨q1, q2⟩ => ⟨?_, hstep (rsv_put gx ho' _) e6 q2⟩⟩
      by_cases hk1 : ks.getD k 0 ≤ 1
      ·exact .inl (q1 hk1)
      ·refine .inr fun j hj => ?_
       have h9 : 1 < ks.getD k 0 := by omega
       rcases hsink k hk' (Nat.ble_eq_true_of_le h9) j hj with h8 | h8
       ·exact .inl h8
       ·rcases Bool.or_eq_true_iff.1 h8 with h8 | h8
        ·exact .inr fun V _ hpend => pend_move h8 hpend
        exact absurd ⟨h9, j, hj, h8⟩ hex
    ·exact .inr ⟨r1, hstep (rsv_put gx ho' _) e6 r2⟩
   ·rw [hF] at g1
    obtain rfl := Option.some.inj g1
    exact fin (evK_sub ok h1 hsub) (onP_mono (fun x hx => by subst hx; exact ⟨F1, N1, g2⟩) g4) rfl
end
end Go.Proofs.YtkknpeeccejppaaDoor
namespace Go.Proofs.YtkknpeeccejppaaDoor
open Go.RowKit
def Stuck (_id : Nat) : Prop := False
def wrC : Code → List Nat
 | .region _ ops _ => dstL ops.toList
 | .seq a b => wrC a ++ wrC b
 | .cond _ a b => wrC a ++ wrC b
 | .block _ b => wrC b
 | .loop b => wrC b
 | .scope b => wrC b
 | _ => []
theorem inW_append {u : Nat} : ∀ {A B : List Nat}, inW u (A ++ B) = (inW u A || inW u B)
 | [], B => rfl
 | k :: r, B => by
  show (bif Nat.beq k u then true else inW u (r ++ B)) = ((bif Nat.beq k u then true else inW u r) || inW u B)
  rw [inW_append]
  cases Nat.beq k u <;> rfl
abbrev Tag := Option Nat
abbrev Outs := List (Tag × Cnd × St)
def tagB : Tag → Tag → Bool
 | none, none => true
 | some i, some j => Nat.beq i j
 | _, _ => false
theorem tagB_eq {x y : Tag} (h : tagB x y = true) : x = y := by
 cases x <;> cases y <;> first | rfl | (cases h; done) | skip
 rw [Nat.eq_of_beq_eq_true h]
theorem tagB_self (x : Tag) : tagB x x = true := by cases x <;> simp [tagB]
theorem tagB_ne {x y : Tag} (h : x ≠ y) : tagB x y = false := by
 cases hb : tagB x y with
 | true => exact absurd (tagB_eq hb) h
 | false => rfl
def getO (t : Tag) : Outs → Option (Cnd × St)
 | [] => none
 | (k, c, s) :: r => bif tagB k t then some (c, s) else getO t r
def noneBut (t : Tag) : Outs → Cnd
 | [] => none
 | (k, c, _) :: r => bif tagB k t then noneBut t r else andO (notO c) (noneBut t r)
def noneOf : Outs → Cnd
 | [] => none
 | (_, c, _) :: r => andO (notO c) (noneOf r)
structure Res where
 ps : List Prop
 outs : Outs
 nrm : Option St
def withB (f : Tag → Cnd → St → Option (Cnd × St) → Cnd × St) (B : Outs) : Outs → Outs
 | [] => []
 | (t, c, s) :: r => (t, f t c s (getO t B)) :: withB f B r
def onlyB (f : Cnd → Cnd) (A : Outs) : Outs → Outs
 | [] => []
 | (t, d, s) :: r => match getO t A with
  | some _ => onlyB f A r
  | none => (t, f d, s) :: onlyB f A r
def joinF (g : Bool) (W : List Nat) (s : St) (_t : Tag) (c : Cnd) (x : St) : Option (Cnd × St) → Cnd × St
 | none => (andO (some g) c, x)
 | some (d, y) => (iteO g c d, mergeS g W s x y)
def joinN (g : Bool) (W : List Nat) (s : St) : Option St → Option St → Option St
 | none, none => none
 | some x, none => some x
 | none, some y => some y
 | some x, some y => some (mergeS g W s x y)
def joinR (g : Bool) (W : List Nat) (s : St) (A B : Res) : Res :=
 ⟨gimps [g = true] A.ps ++ gimps [g = false] B.ps, withB (joinF g W s) B.outs A.outs ++ onlyB (andO (some !g)) A.outs B.outs, joinN g W s A.nrm B.nrm⟩
def seqF (A : Outs) (W : List Nat) (s : St) (t : Tag) (c : Cnd) (x : St) : Option (Cnd × St) → Cnd × St
 | none => (c, x)
 | some (d, y) => (orO c (andO (noneBut t A) d), mergeS (cval c) W s x y)
def seqR (W : List Nat) (s : St) (A B : Res) : Res :=
 ⟨A.ps ++ gimps (cndP (noneOf A.outs)) B.ps, withB (seqF A.outs W s) B.outs A.outs ++ onlyB (andO (noneOf A.outs)) A.outs B.outs, B.nrm⟩
def dropO (t : Tag) : Outs → Outs
 | [] => []
 | (k, c, s) :: r => bif tagB k t then dropO t r else (k, c, s) :: dropO t r
def blockR (W : List Nat) (s : St) (id : Nat) (A : Res) : Res := match getO (some id) A.outs with
 | none => A
 | some (c, x) => ⟨A.ps, dropO (some id) A.outs, match A.nrm with
  | none => some x
  | some y => some (mergeS (cval c) W s x y)⟩
def stuckR (id : Nat) : Res := ⟨[Stuck id], [], none⟩
def loopR (W : List Nat) (f : St → Res) : Nat → St → Res
 | 0, _ => stuckR 1000000
 | n + 1, s => match (f s).nrm with
  | none => f s
  | some s1 => seqR W s (f s) (loopR W f n s1)
def isRegion : Code → Bool
 | .region _ _ _ => true
 | _ => false
def litH (h : Bool) (u : Nat) : Bool := bif h then true else Nat.ble 1000 u
def evH (E : Env) (u : Nat) : Nat → Code → Bool → St → Res
 | _, .skip, _, s => ⟨[], [], some s⟩
 | _, .region id ops draw, _, s => match evR E ops.toList draw s with
  | some (s', ps) => ⟨ps, [], some s'⟩
  | none => stuckR id
 | _, .seq a b, h, s => match (evH E u 0 a h s).nrm with
  | none => evH E u 0 a h s
  | some s1 => seqR (wrC a ++ wrC b) s (evH E u 0 a h s) (evH E u 0 b (bif isRegion a then h else false) s1)
 | _, .cond c x y, h, s => match s.raw [] c with
  | some (.bool g) => match litH h u with
   | true => match g with
    | true => evH E u 0 x false s
    | false => evH E u 0 y false s
   | false => joinR g (wrC x ++ wrC y) s (evH E u 0 x false s) (evH E u 0 y false s)
  | _ => stuckR 1000001
 | _, .block id b, _, s => blockR (wrC b) s id (evH E u id b false s)
 | l, .loop b, _, s => match E.L l s with
  | some (b0, ps, outs) => ⟨(b = b0) :: ps, outs, none⟩
  | none => loopR (wrC b) (evH E u 0 b true) u s
 | _, .exit id, _, s => ⟨[], [(some id, none, s)], none⟩
 | _, .ret, _, s => ⟨[], [(none, none, s)], none⟩
 | _, .scope b, _, s => evH E u 0 b false s
 | _, .label _, _, s => ⟨[], [], some s⟩
 | _, _, _, _ => stuckR 1000002
abbrev evC (E : Env) (u : Nat) (c : Code) (s : St) : Res := evH E u 0 c false s
def Tag.ex : Tag → Exit
 | none => .ret
 | some i => .exit i
def AllF (o : Outs) : Prop := ∀ t c s, getO t o = some (c, s) → cval c = false
def ButF (t : Tag) (o : Outs) : Prop := ∀ t' c s, t' ≠ t → getO t' o = some (c, s) → cval c = false
def Oc (r : Res) (e : Exit) (s : St) : Prop :=
 (∃ t c, e = Tag.ex t ∧ getO t r.outs = some (c, s) ∧ cval c = true ∧ ButF t r.outs) ∨ (e = .normal ∧ r.nrm = some s ∧ AllF r.outs)
theorem getO_append (t : Tag) : ∀ (A B : Outs), getO t (A ++ B) = match getO t A with | some x => some x | none => getO t B
 | [], B => rfl
 | (k, c, s) :: r, B => by
  show (bif tagB k t then some (c, s) else getO t (r ++ B)) = match (bif tagB k t then some (c, s) else getO t r) with | some x => some x | none => getO t B
  cases tagB k t with
  | true => rfl
  | false => exact getO_append t r B
theorem getO_withB (f : Tag → Cnd → St → Option (Cnd × St) → Cnd × St) (B : Outs) (t : Tag) : ∀ (A : Outs), getO t (withB f B A) = match getO t A with | some (c, s) => some (f t c s (getO t B)) | none => none
 | [] => rfl
 | (k, c, s) :: r => by
  show (bif tagB k t then some (f k c s (getO k B)) else getO t (withB f B r)) = match (bif tagB k t then some (c, s) else getO t r) with | some (c, s) => some (f t c s (getO t B)) | none => none
  cases h : tagB k t with
  | true => rw [tagB_eq h]; rfl
  | false => exact getO_withB f B t r
theorem getO_onlyB (f : Cnd → Cnd) (A : Outs) (t : Tag) (hA : getO t A = none) : ∀ (B : Outs), getO t (onlyB f A B) = match getO t B with | some (d, s) => some (f d, s) | none => none
 | [] => rfl
 | (k, d, s) :: r => by
  show getO t (match getO k A with | some _ => onlyB f A r | none => (k, f d, s) :: onlyB f A r) = match (bif tagB k t then some (d, s) else getO t r) with | some (d, s) => some (f d, s) | none => none
  cases h : tagB k t with
  | true =>
   obtain rfl := tagB_eq h
   rw [hA]
   show (bif tagB k k then some (f d, s) else getO k (onlyB f A r)) = _
   rw [tagB_self]
   rfl
  | false =>
   have ih := getO_onlyB f A t hA r
   cases hk : getO k A with
   | some x => exact ih
   | none =>
    show (bif tagB k t then some (f d, s) else getO t (onlyB f A r)) = _
    rw [h]
    exact ih
theorem getO_join (t : Tag) (f : Tag → Cnd → St → Option (Cnd × St) → Cnd × St) (h : Cnd → Cnd) (A B : Outs) :
  getO t (withB f B A ++ onlyB h A B) = match getO t A with | some (c, s) => some (f t c s (getO t B)) | none => match getO t B with | some (d, s) => some (h d, s) | none => none := by
 rw [getO_append, getO_withB]
 cases hA : getO t A with
 | some x => rfl
 | none => exact getO_onlyB h A t hA B
theorem noneOf_ok : ∀ {o : Outs}, (∀ e ∈ o, cval e.2.1 = false) → cval (noneOf o) = true
 | [], _ => rfl
 | (k, c, s) :: r, h => by
  show cval (andO (notO c) (noneOf r)) = true
  rw [cval_and, cval_not, h (k, c, s) (List.mem_cons_self ..), noneOf_ok fun e he => h e (List.mem_cons_of_mem _ he)]
  rfl
def Once : Outs → Prop
 | [] => True
 | (k, _, _) :: r => getO k r = none ∧ Once r
theorem mem_getO : ∀ {o : Outs}, Once o → ∀ e ∈ o, getO e.1 o = some e.2
 | [], _, e, h => by cases h
 | (k, c, s) :: r, ⟨h1, h2⟩, e, h => by
  rcases List.mem_cons.1 h with rfl | h
  ·show (bif tagB k k then some (c, s) else getO k r) = _
   rw [tagB_self]
   rfl
  ·have := mem_getO h2 e h
   show (bif tagB k e.1 then some (c, s) else getO e.1 r) = _
   cases hb : tagB k e.1 with
   | true =>
    obtain rfl := tagB_eq hb
    rw [h1] at this
    cases this
   | false => exact this
theorem allF_noneOf {o : Outs} (ho : Once o) (h : AllF o) : cval (noneOf o) = true := noneOf_ok fun e he => h e.1 e.2.1 e.2.2 (mem_getO ho e he)
theorem noneOf_no : ∀ {o : Outs} {t : Tag} {c : Cnd} {s : St}, getO t o = some (c, s) → cval c = true → cval (noneOf o) = false
 | [], _, _, _, h, _ => by cases h
 | (k, d, x) :: r, t, c, s, h, hc => by
  show cval (andO (notO d) (noneOf r)) = false
  rw [cval_and, cval_not]
  have h' : (bif tagB k t then some (d, x) else getO t r) = some (c, s) := h
  cases hb : tagB k t with
  | true =>
   rw [hb] at h'
   obtain ⟨rfl, rfl⟩ : d = c ∧ x = s := by cases h'; exact ⟨rfl, rfl⟩
   rw [hc]
   rfl
  | false =>
   rw [hb] at h'
   rw [noneOf_no h' hc, Bool.and_false]
theorem noneBut_no : ∀ {o : Outs} {t u : Tag} {c : Cnd} {s : St}, t ≠ u → getO t o = some (c, s) → cval c = true → cval (noneBut u o) = false
 | [], _, _, _, _, _, h, _ => by cases h
 | (k, d, x) :: r, t, u, c, s, hu, h, hc => by
  have h' : (bif tagB k t then some (d, x) else getO t r) = some (c, s) := h
  show cval (bif tagB k u then noneBut u r else andO (notO d) (noneBut u r)) = false
  cases hb : tagB k t with
  | true =>
   rw [hb] at h'
   obtain ⟨rfl, rfl⟩ : d = c ∧ x = s := by cases h'; exact ⟨rfl, rfl⟩
   obtain rfl := tagB_eq hb
   rw [tagB_ne hu]
   show cval (andO (notO d) (noneBut u r)) = false
   rw [cval_and, cval_not, hc]
   rfl
  | false =>
   rw [hb] at h'
   have ih := noneBut_no hu h' hc
   cases tagB k u with
   | true => exact ih
   | false =>
    show cval (andO (notO d) (noneBut u r)) = false
    rw [cval_and, ih, Bool.and_false]
theorem noneBut_ok : ∀ {o : Outs} {u : Tag}, (∀ e ∈ o, cval e.2.1 = false) → cval (noneBut u o) = true
 | [], _, _ => rfl
 | (k, c, s) :: r, u, h => by
  have ih := noneBut_ok (u := u) (o := r) fun e he => h e (List.mem_cons_of_mem _ he)
  show cval (bif tagB k u then noneBut u r else andO (notO c) (noneBut u r)) = true
  cases tagB k u with
  | true => exact ih
  | false =>
   show cval (andO (notO c) (noneBut u r)) = true
   rw [cval_and, cval_not, h (k, c, s) (List.mem_cons_self ..), ih]
   rfl
theorem once_append : ∀ {A B : Outs}, Once A → Once B → (∀ t x, getO t A = some x → getO t B = none) → Once (A ++ B)
 | [], B, _, hB, _ => hB
 | (k, c, s) :: r, B, ⟨h1, h2⟩, hB, h => by
  refine ⟨?_, once_append h2 hB fun t x hx => h t x ?_⟩
  ·show getO k (r ++ B) = none
   rw [getO_append, h1]
   exact h k (c, s) (by show (bif tagB k k then some (c, s) else getO k r) = _; rw [tagB_self]; rfl)
  ·show (bif tagB k t then some (c, s) else getO t r) = some x
   cases hb : tagB k t with
   | true =>
    obtain rfl := tagB_eq hb
    rw [h1] at hx
    cases hx
   | false => exact hx
theorem once_withB (f : Tag → Cnd → St → Option (Cnd × St) → Cnd × St) (B : Outs) : ∀ {A : Outs}, Once A → Once (withB f B A)
 | [], _ => trivial
 | (k, c, s) :: r, ⟨h1, h2⟩ => ⟨by rw [getO_withB, h1], once_withB f B h2⟩
theorem getO_onlyB_none (f : Cnd → Cnd) (A : Outs) (t : Tag) (hA : getO t A ≠ none) : ∀ (B : Outs), getO t (onlyB f A B) = none
 | [] => rfl
 | (k, d, s) :: r => by
  have ih := getO_onlyB_none f A t hA r
  show getO t (match getO k A with | some _ => onlyB f A r | none => (k, f d, s) :: onlyB f A r) = none
  cases hk : getO k A with
  | some x => exact ih
  | none =>
   show (bif tagB k t then some (f d, s) else getO t (onlyB f A r)) = none
   cases hb : tagB k t with
   | true => exact absurd (tagB_eq hb ▸ hk) hA
   | false => exact ih
theorem once_onlyB (f : Cnd → Cnd) (A : Outs) : ∀ {B : Outs}, Once B → Once (onlyB f A B)
 | [], _ => trivial
 | (k, d, s) :: r, ⟨h1, h2⟩ => by
  have ih := once_onlyB f A h2
  show Once (match getO k A with | some _ => onlyB f A r | none => (k, f d, s) :: onlyB f A r)
  cases hk : getO k A with
  | some x => exact ih
  | none => exact ⟨by rw [getO_onlyB f A k hk, h1], ih⟩
theorem once_join (f : Tag → Cnd → St → Option (Cnd × St) → Cnd × St) (h : Cnd → Cnd) {A B : Outs} (hA : Once A) (hB : Once B) : Once (withB f B A ++ onlyB h A B) :=
 once_append (once_withB f B hA) (once_onlyB h A hB) fun t x hx => by
  refine getO_onlyB_none h A t (fun hn => ?_) B
  rw [getO_withB, hn] at hx
  cases hx
theorem getO_dropO (u t : Tag) : ∀ (o : Outs), getO t (dropO u o) = if t = u then none else getO t o
 | [] => by split <;> rfl
 | (k, c, s) :: r => by
  have ih := getO_dropO u t r
  show getO t (bif tagB k u then dropO u r else (k, c, s) :: dropO u r) = if t = u then none else (bif tagB k t then some (c, s) else getO t r)
  by_cases hku : k = u
  ·subst hku
   rw [tagB_self]
   show getO t (dropO k r) = _
   rw [ih]
   by_cases htk : t = k
   ·rw [if_pos htk, if_pos htk]
   ·rw [if_neg htk, if_neg htk, tagB_ne (Ne.symm htk)]
    rfl
  ·rw [tagB_ne hku]
   show (bif tagB k t then some (c, s) else getO t (dropO u r)) = _
   rw [ih]
   by_cases htu : t = u
   ·subst htu
    rw [if_pos rfl, if_pos rfl, tagB_ne hku]
    rfl
   ·rw [if_neg htu, if_neg htu]
theorem once_dropO (u : Tag) : ∀ {o : Outs}, Once o → Once (dropO u o)
 | [], _ => trivial
 | (k, c, s) :: r, ⟨h1, h2⟩ => by
  have ih := once_dropO u h2
  show Once (bif tagB k u then dropO u r else (k, c, s) :: dropO u r)
  cases tagB k u with
  | true => exact ih
  | false => exact ⟨by rw [getO_dropO, h1]; split <;> rfl, ih⟩
structure Wf (s : St) (r : Res) : Prop where
 outs : ∀ t c x, getO t r.outs = some (c, x) → Sub s x
 nrm : ∀ x, r.nrm = some x → Sub s x
 once : Once r.outs
theorem wf_join {s : St} {g : Bool} {W : List Nat} {A B : Res} (hA : Wf s A) (hB : Wf s B) : Wf s (joinR g W s A B) := by
 refine ⟨fun t c x h => ?_, fun x h => ?_, once_join _ _ hA.once hB.once⟩
 ·have h' : getO t (withB (joinF g W s) B.outs A.outs ++ onlyB (andO (some !g)) A.outs B.outs) = some (c, x) := h
  rw [getO_join] at h'
  cases h1 : getO t A.outs with
  | some y =>
   obtain ⟨c1, y⟩ := y
   rw [h1] at h'
   cases h2 : getO t B.outs with
   | some z =>
    obtain ⟨c2, z⟩ := z
    rw [h2] at h'
    cases h'
    exact Sub.merge _ _ _ _ _
   | none =>
    rw [h2] at h'
    cases h'
    exact hA.outs _ _ _ h1
  | none =>
   rw [h1] at h'
   cases h2 : getO t B.outs with
   | some z =>
    obtain ⟨c2, z⟩ := z
    rw [h2] at h'
    cases h'
    exact hB.outs _ _ _ h2
   | none =>
    rw [h2] at h'
    cases h'
 ·have h' : joinN g W s A.nrm B.nrm = some x := h
  cases h1 : A.nrm with
  | some y =>
   cases h2 : B.nrm with
   | some z => rw [h1, h2] at h'; cases h'; exact Sub.merge _ _ _ _ _
   | none => rw [h1, h2] at h'; cases h'; exact hA.nrm _ h1
  | none =>
   cases h2 : B.nrm with
   | some z => rw [h1, h2] at h'; cases h'; exact hB.nrm _ h2
   | none => rw [h1, h2] at h'; cases h'
theorem wf_seq {s s1 : St} {W : List Nat} {A B : Res} (hA : Wf s A) (h1 : A.nrm = some s1) (hB : Wf s1 B) : Wf s (seqR W s A B) := by
 have hs := hA.nrm _ h1
 refine ⟨fun t c x h => ?_, fun x h => hs.trans (hB.nrm _ h), once_join _ _ hA.once hB.once⟩
 have h' : getO t (withB (seqF A.outs W s) B.outs A.outs ++ onlyB (andO (noneOf A.outs)) A.outs B.outs) = some (c, x) := h
 rw [getO_join] at h'
 cases h1 : getO t A.outs with
 | some y =>
  obtain ⟨c1, y⟩ := y
  rw [h1] at h'
  cases h2 : getO t B.outs with
  | some z =>
   obtain ⟨c2, z⟩ := z
   rw [h2] at h'
   cases h'
   exact Sub.merge _ _ _ _ _
  | none =>
   rw [h2] at h'
   cases h'
   exact hA.outs _ _ _ h1
 | none =>
  rw [h1] at h'
  cases h2 : getO t B.outs with
  | some z =>
   obtain ⟨c2, z⟩ := z
   rw [h2] at h'
   cases h'
   exact hs.trans (hB.outs _ _ _ h2)
  | none =>
   rw [h2] at h'
   cases h'
theorem wf_block {s : St} {W : List Nat} {id : Nat} {A : Res} (hA : Wf s A) : Wf s (blockR W s id A) := by
 unfold blockR
 cases h1 : getO (some id) A.outs with
 | none => exact hA
 | some y =>
  obtain ⟨c, y⟩ := y
  refine ⟨fun t c' x h => ?_, fun x h => ?_, once_dropO _ hA.once⟩
  ·have h' : getO t (dropO (some id) A.outs) = some (c', x) := h
   rw [getO_dropO] at h'
   split at h'
   ·cases h'
   ·exact hA.outs _ _ _ h'
  ·have h' : (match A.nrm with | none => some y | some z => some (mergeS (cval c) W s y z)) = some x := h
   cases h2 : A.nrm with
   | none => rw [h2] at h'; cases h'; exact hA.outs _ _ _ h1
   | some z => rw [h2] at h'; cases h'; exact Sub.merge _ _ _ _ _
theorem wf_stuck (s : St) (id : Nat) : Wf s (stuckR id) := ⟨fun _ _ _ h => (by cases h), fun _ h => (by cases h), trivial⟩
theorem wf_loop {W : List Nat} {f : St → Res} (hf : ∀ s, Wf s (f s)) : ∀ (n : Nat) (s : St), Wf s (loopR W f n s)
 | 0, s => wf_stuck s _
 | n + 1, s => by
  unfold loopR
  cases h : (f s).nrm with
  | none => exact hf s
  | some s1 => exact wf_seq (hf s) h (wf_loop hf n s1)
theorem wf_one (s : St) (t : Tag) : Wf s ⟨[], [(t, none, s)], none⟩ :=
  ⟨fun t' c x h => (by
    have h' : (bif tagB t t' then some (none, s) else none) = some (c, x) := h
    cases hb : tagB t t' with
    | true => rw [hb] at h'; cases h'; exact Sub.refl s
    | false => rw [hb] at h'; cases h'),
   fun x h => (by cases h), rfl, trivial⟩
def LoopOk (E : Env) (b : Code) (s : St) (ps : List Prop) (outs : Outs) : Prop := ∀ (Z : Base) (F : Nat → Prop) (N : Nm) (a : Act) (R : World) (Q : Exit → Act → World → Prop), Rel Z F N s a R → (∀ u, inW u (wrC b) = true → Z.W u) → (∀ p ∈ ps, p) →
 (∀ e x F' N' a' R', Oc ⟨ps, outs, none⟩ e x → Rel Z F' N' x a' R' → Q e a' R') → (Code.loop b).wp E.P Q a R
structure CodeOk (E : Env) : Prop extends EnvOk E where
 loops : ∀ l s b ps outs, E.L l s = some (b, ps, outs) → Wf s ⟨ps, outs, none⟩ ∧ LoopOk E b s ps outs
theorem wf_code {E : Env} (ok : CodeOk E) {u : Nat} : ∀ (l : Nat) (c : Code) (h : Bool) (s : St), Wf s (evH E u l c h s)
 | _, .skip, _, s => ⟨fun _ _ _ h => (by cases h), fun x h => (by cases h; exact Sub.refl s), trivial⟩
 | _, .region id ops draw, _, s => by
  unfold evH
  cases h : evR E ops.toList draw s with
  | none => exact wf_stuck s _
  | some x =>
   obtain ⟨s', ps⟩ := x
   exact ⟨fun _ _ _ h => (by cases h), fun x h' => (by cases h'; exact region_sub ok.toEnvOk h), trivial⟩
 | _, .seq a b, hd, s => by
  unfold evH
  cases h : (evH E u 0 a hd s).nrm with
  | none => exact wf_code ok 0 a hd s
  | some s1 => exact wf_seq (wf_code ok 0 a hd s) h (wf_code ok 0 b _ s1)
 | _, .cond c x y, hd, s => by
  unfold evH
  split
  ·rename_i g _
   cases litH hd u with
   | true =>
    cases g with
    | true => exact wf_code ok 0 x _ s
    | false => exact wf_code ok 0 y _ s
   | false => exact wf_join (wf_code ok 0 x _ s) (wf_code ok 0 y _ s)
  ·exact wf_stuck s _
 | _, .block id b, _, s => wf_block (wf_code ok id b _ s)
 | l, .loop b, _, s => by
  unfold evH
  split
  ·rename_i b0 ps outs h
   obtain ⟨h1, h2, h3⟩ := (ok.loops _ _ _ _ _ h).1
   exact ⟨h1, h2, h3⟩
  ·exact wf_loop (fun s => wf_code ok 0 b _ s) u s
 | _, .exit id, _, s => wf_one s (some id)
 | _, .ret, _, s => wf_one s none
 | _, .rangeFunc _ _ _ _, _, s => wf_stuck s _
 | _, .scope b, _, s => wf_code ok 0 b false s
 | _, .label _, _, s => ⟨fun _ _ _ h => (by cases h), fun x h => (by cases h; exact Sub.refl s), trivial⟩
 | _, .goto _, _, s => wf_stuck s _
 | _, .refuse _, _, s => wf_stuck s _
theorem all_append {ps qs : List Prop} (h : ∀ p ∈ ps ++ qs, p) : (∀ p ∈ ps, p) ∧ (∀ p ∈ qs, p) := ⟨fun p hp => h p (List.mem_append.2 (.inl hp)), fun p hp => h p (List.mem_append.2 (.inr hp))⟩
def Lift (M : Base) (x y : St) : Prop := ∀ a' R', At M a' R' x → At M a' R' y
theorem lift_m {Z : Base} {F : Nat → Prop} {N : Nm} {s : St} {a : Act} {R : World} {W : List Nat} (h0 : Rel Z F N s a R) {g : Bool} {x y z : St} (e1 : Sub s x) (e2 : Sub s y) (hz : z = bif g then x else y) : Lift (midB F N s a R W) z (mergeS g W s x y) := fun a' R' ⟨F', N', h⟩ => by
 subst hz
 obtain ⟨N'', h'⟩ := Rel.merge (h0.start W) h (fun _ h => h) e1 e2
 exact ⟨F', N'', h'⟩
theorem oc_join {Z : Base} {F : Nat → Prop} {N : Nm} {a : Act} {R : World} {W : List Nat} {s : St} (h0 : Rel Z F N s a R) {g : Bool} {A B : Res} {e : Exit} {x : St} (hA : Wf s A) (hB : Wf s B) (h : Oc (bif g then A else B) e x) :
  ∃ y, Oc (joinR g W s A B) e y ∧ Lift (midB F N s a R W) x y := by
 have gj := getO_join (f := joinF g W s) (h := andO (some !g)) (A := A.outs) (B := B.outs)
 rcases h with ⟨t, c, rfl, h1, h2, h3⟩ | ⟨rfl, h1, h2⟩
 ·cases g with
  | true =>
   have h1' : getO t A.outs = some (c, x) := h1
   cases hb : getO t B.outs with
   | none =>
    refine ⟨x, .inl ⟨t, andO (some true) c, rfl, ?_, ?_, fun t' c' s' hne hg => ?_⟩, fun _ _ h => h⟩
    ·show getO t (_ ++ _) = _
     rw [gj, h1', hb]
     rfl
    ·rw [cval_and, h2]; rfl
    ·have hg' : getO t' (_ ++ _) = some (c', s') := hg
     rw [gj] at hg'
     cases ha : getO t' A.outs with
     | some z =>
      obtain ⟨c1, z⟩ := z
      have := h3 t' c1 z hne ha
      rw [ha] at hg'
      cases hb' : getO t' B.outs with
      | some w => obtain ⟨d, w⟩ := w; rw [hb'] at hg'; cases hg'; rw [cval_ite]; exact this
      | none => rw [hb'] at hg'; cases hg'; rw [cval_and, this]; rfl
     | none =>
      rw [ha] at hg'
      cases hb' : getO t' B.outs with
      | some w => obtain ⟨d, w⟩ := w; rw [hb'] at hg'; cases hg'; rw [cval_and]; rfl
      | none => rw [hb'] at hg'; cases hg'
   | some y =>
    obtain ⟨d, y⟩ := y
    refine ⟨mergeS true W s x y, .inl ⟨t, iteO true c d, rfl, ?_, ?_, fun t' c' s' hne hg => ?_⟩, lift_m (g := true) h0 (hA.outs _ _ _ h1') (hB.outs _ _ _ hb) rfl⟩
    ·show getO t (_ ++ _) = _
     rw [gj, h1', hb]
     rfl
    ·rw [cval_ite]; exact h2
    ·have hg' : getO t' (_ ++ _) = some (c', s') := hg
     rw [gj] at hg'
     cases ha : getO t' A.outs with
     | some z =>
      obtain ⟨c1, z⟩ := z
      have := h3 t' c1 z hne ha
      rw [ha] at hg'
      cases hb' : getO t' B.outs with
      | some w => obtain ⟨d, w⟩ := w; rw [hb'] at hg'; cases hg'; rw [cval_ite]; exact this
      | none => rw [hb'] at hg'; cases hg'; rw [cval_and, this]; rfl
     | none =>
      rw [ha] at hg'
      cases hb' : getO t' B.outs with
      | some w => obtain ⟨d, w⟩ := w; rw [hb'] at hg'; cases hg'; rw [cval_and]; rfl
      | none => rw [hb'] at hg'; cases hg'
  | false =>
   have h1' : getO t B.outs = some (c, x) := h1
   have hbut : ∀ t' c' s', t' ≠ t → getO t' (joinR false W s A B).outs = some (c', s') → cval c' = false := fun t' c' s' hne hg => by
    have hg' : getO t' (_ ++ _) = some (c', s') := hg
    rw [gj] at hg'
    cases ha : getO t' A.outs with
    | some z =>
     obtain ⟨c1, z⟩ := z
     rw [ha] at hg'
     cases hb' : getO t' B.outs with
     | some w =>
      obtain ⟨d, w⟩ := w
      have := h3 t' d w hne hb'
      rw [hb'] at hg'; cases hg'; rw [cval_ite]; exact this
     | none => rw [hb'] at hg'; cases hg'; rw [cval_and]; rfl
    | none =>
     rw [ha] at hg'
     cases hb' : getO t' B.outs with
     | some w =>
      obtain ⟨d, w⟩ := w
      have := h3 t' d w hne hb'
      rw [hb'] at hg'; cases hg'; rw [cval_and, this]; rfl
     | none => rw [hb'] at hg'; cases hg'
   cases ha : getO t A.outs with
   | none =>
    refine ⟨x, .inl ⟨t, andO (some !false) c, rfl, ?_, ?_, hbut⟩, fun _ _ h => h⟩
    ·show getO t (_ ++ _) = _
     rw [gj, ha, h1']
    ·rw [cval_and, h2]; rfl
   | some y =>
    obtain ⟨d, y⟩ := y
    refine ⟨mergeS false W s y x, .inl ⟨t, iteO false d c, rfl, ?_, ?_, hbut⟩, lift_m (g := false) h0 (hA.outs _ _ _ ha) (hB.outs _ _ _ h1') rfl⟩
    ·show getO t (_ ++ _) = _
     rw [gj, ha, h1']
     rfl
    ·rw [cval_ite]; exact h2
 ·have hall : AllF (joinR g W s A B).outs := fun t' c' s' hg => by
   have hg' : getO t' (_ ++ _) = some (c', s') := hg
   rw [gj] at hg'
   cases ha : getO t' A.outs with
   | some z =>
    obtain ⟨c1, z⟩ := z
    rw [ha] at hg'
    cases hb' : getO t' B.outs with
    | some w =>
     obtain ⟨d, w⟩ := w
     rw [hb'] at hg'; cases hg'; rw [cval_ite]
     cases g with
     | true => exact h2 t' c1 _ ha
     | false => exact h2 t' d _ hb'
    | none =>
     rw [hb'] at hg'; cases hg'; rw [cval_and]
     cases g with
     | true => rw [h2 t' c1 _ ha]; rfl
     | false => rfl
   | none =>
    rw [ha] at hg'
    cases hb' : getO t' B.outs with
    | some w =>
     obtain ⟨d, w⟩ := w
     rw [hb'] at hg'; cases hg'; rw [cval_and]
     cases g with
     | true => rfl
     | false => rw [h2 t' d _ hb']; rfl
    | none => rw [hb'] at hg'; cases hg'
  cases g with
  | true =>
   have h1' : A.nrm = some x := h1
   cases hb : B.nrm with
   | none => exact ⟨x, .inr ⟨rfl, by show joinN true W s A.nrm B.nrm = _; rw [h1', hb]; rfl, hall⟩, fun _ _ h => h⟩
   | some y => exact ⟨_, .inr ⟨rfl, by show joinN true W s A.nrm B.nrm = _; rw [h1', hb]; rfl, hall⟩, lift_m (g := true) h0 (hA.nrm _ h1') (hB.nrm _ hb) rfl⟩
  | false =>
   have h1' : B.nrm = some x := h1
   cases ha : A.nrm with
   | none => exact ⟨x, .inr ⟨rfl, by show joinN false W s A.nrm B.nrm = _; rw [ha, h1']; rfl, hall⟩, fun _ _ h => h⟩
   | some y => exact ⟨_, .inr ⟨rfl, by show joinN false W s A.nrm B.nrm = _; rw [ha, h1']; rfl, hall⟩, lift_m (g := false) h0 (hA.nrm _ ha) (hB.nrm _ h1') rfl⟩
theorem oc_seq1 {Z : Base} {F : Nat → Prop} {N : Nm} {a : Act} {R : World} {W : List Nat} {s s1 : St} (h0 : Rel Z F N s a R) {A B : Res} {t : Tag} {c : Cnd} {x : St} (hA : Wf s A) (hn : A.nrm = some s1) (hB : Wf s1 B) (h1 : getO t A.outs = some (c, x)) (h2 : cval c = true) (h3 : ButF t A.outs) :
  ∃ y, Oc (seqR W s A B) (Tag.ex t) y ∧ Lift (midB F N s a R W) x y := by
 have gj := getO_join (f := seqF A.outs W s) (h := andO (noneOf A.outs)) (A := A.outs) (B := B.outs)
 have hbut : ButF t (seqR W s A B).outs := fun t' c' s' hne hg => by
  have hg' : getO t' (_ ++ _) = some (c', s') := hg
  rw [gj] at hg'
  cases ha : getO t' A.outs with
  | some z =>
   obtain ⟨c1, z⟩ := z
   have := h3 t' c1 z hne ha
   rw [ha] at hg'
   cases hb' : getO t' B.outs with
   | some w =>
    obtain ⟨d, w⟩ := w
    rw [hb'] at hg'; cases hg'
    rw [cval_or, this, cval_and, noneBut_no (Ne.symm hne) h1 h2]
    rfl
   | none => rw [hb'] at hg'; cases hg'; exact this
  | none =>
   rw [ha] at hg'
   cases hb' : getO t' B.outs with
   | some w =>
    obtain ⟨d, w⟩ := w
    rw [hb'] at hg'; cases hg'
    rw [cval_and, noneOf_no h1 h2]
    rfl
   | none => rw [hb'] at hg'; cases hg'
 cases hb : getO t B.outs with
 | none =>
  refine ⟨x, .inl ⟨t, c, rfl, ?_, h2, hbut⟩, fun _ _ h => h⟩
  show getO t (_ ++ _) = _
  rw [gj, h1, hb]
  rfl
 | some y =>
  obtain ⟨d, y⟩ := y
  refine ⟨mergeS (cval c) W s x y, .inl ⟨t, orO c (andO (noneBut t A.outs) d), rfl, ?_, ?_, hbut⟩, lift_m (g := cval c) h0 (hA.outs _ _ _ h1) ((hA.nrm _ hn).trans (hB.outs _ _ _ hb)) (by rw [h2]; rfl)⟩
  ·show getO t (_ ++ _) = _
   rw [gj, h1, hb]
   rfl
  ·rw [cval_or, h2]
   rfl
theorem oc_seq2 {Z : Base} {F : Nat → Prop} {N : Nm} {a : Act} {R : World} {W : List Nat} {s s1 : St} (h0 : Rel Z F N s a R) {A B : Res} {e : Exit} {x : St} (hA : Wf s A) (hn : A.nrm = some s1) (hB : Wf s1 B) (hall : AllF A.outs) (h : Oc B e x) :
  ∃ y, Oc (seqR W s A B) e y ∧ Lift (midB F N s a R W) x y := by
 have gj := getO_join (f := seqF A.outs W s) (h := andO (noneOf A.outs)) (A := A.outs) (B := B.outs)
 have hno := allF_noneOf hA.once hall
 have hnb : ∀ t, cval (noneBut t A.outs) = true := fun t => noneBut_ok fun e he => hall e.1 e.2.1 e.2.2 (mem_getO hA.once e he)
 rcases h with ⟨t, c, rfl, h1, h2, h3⟩ | ⟨rfl, h1, h2⟩
 ·have hbut : ButF t (seqR W s A B).outs := fun t' c' s' hne hg => by
   have hg' : getO t' (_ ++ _) = some (c', s') := hg
   rw [gj] at hg'
   cases ha : getO t' A.outs with
   | some z =>
    obtain ⟨c1, z⟩ := z
    have := hall t' c1 z ha
    rw [ha] at hg'
    cases hb' : getO t' B.outs with
    | some w =>
     obtain ⟨d, w⟩ := w
     rw [hb'] at hg'; cases hg'
     rw [cval_or, this, cval_and, h3 t' d _ hne hb', Bool.and_false]
     rfl
    | none => rw [hb'] at hg'; cases hg'; exact this
   | none =>
    rw [ha] at hg'
    cases hb' : getO t' B.outs with
    | some w =>
     obtain ⟨d, w⟩ := w
     rw [hb'] at hg'; cases hg'
     rw [cval_and, h3 t' d _ hne hb', Bool.and_false]
    | none => rw [hb'] at hg'; cases hg'
  cases ha : getO t A.outs with
  | none =>
   refine ⟨x, .inl ⟨t, andO (noneOf A.outs) c, rfl, ?_, by rw [cval_and, hno, h2]; rfl, hbut⟩, fun _ _ h => h⟩
   show getO t (_ ++ _) = _
   rw [gj, ha, h1]
  | some y =>
   obtain ⟨d, y⟩ := y
   have hd := hall t d y ha
   refine ⟨mergeS (cval d) W s y x, .inl ⟨t, orO d (andO (noneBut t A.outs) c), rfl, ?_, ?_, hbut⟩, lift_m (g := cval d) h0 (hA.outs _ _ _ ha) ((hA.nrm _ hn).trans (hB.outs _ _ _ h1)) (by rw [hd]; rfl)⟩
   ·show getO t (_ ++ _) = _
    rw [gj, ha, h1]
    rfl
   ·rw [cval_or, cval_and, hnb t, h2, Bool.and_self, Bool.or_true]
 ·refine ⟨x, .inr ⟨rfl, h1, fun t' c' s' hg => ?_⟩, fun _ _ h => h⟩
  have hg' : getO t' (_ ++ _) = some (c', s') := hg
  rw [gj] at hg'
  cases ha : getO t' A.outs with
  | some z =>
   obtain ⟨c1, z⟩ := z
   have := hall t' c1 z ha
   rw [ha] at hg'
   cases hb' : getO t' B.outs with
   | some w =>
    obtain ⟨d, w⟩ := w
    rw [hb'] at hg'; cases hg'
    rw [cval_or, this, cval_and, h2 t' d _ hb', Bool.and_false]
    rfl
   | none => rw [hb'] at hg'; cases hg'; exact this
  | none =>
   rw [ha] at hg'
   cases hb' : getO t' B.outs with
   | some w =>
    obtain ⟨d, w⟩ := w
    rw [hb'] at hg'; cases hg'
    rw [cval_and, h2 t' d _ hb', Bool.and_false]
   | none => rw [hb'] at hg'; cases hg'
theorem seq_needs {W : List Nat} {s : St} {A B : Res} (hA : Wf s A) (hall : AllF A.outs) (h : ∀ p ∈ (seqR W s A B).ps, p) : (∀ p ∈ B.ps, p) := by
 have h' := (all_append h).2
 refine gimps_ok h' fun q hq => ?_
 have hno := allF_noneOf hA.once hall
 cases hc : noneOf A.outs with
 | none => rw [hc] at hq; cases hq
 | some b =>
  rw [hc] at hq hno
  obtain rfl := List.mem_singleton.1 hq
  exact hno
def Good (E : Env) (f : St → Res) (c : Code) : Prop := ∀ (Z : Base) (s : St) (a : Act) (R : World) (Q : Exit → Act → World → Prop), At Z a R s → (∀ u, inW u (wrC c) = true → Z.W u) → (∀ p ∈ (f s).ps, p) →
 (∀ e x a' R', Oc (f s) e x → At Z a' R' x → Q e a' R') → c.wp E.P Q a R
theorem At.over {Z : Base} {F : Nat → Prop} {N : Nm} {s x : St} {a a' : Act} {R R' : World} {W : List Nat} (h0 : Rel Z F N s a R) (hW : ∀ u, inW u W = true → Z.W u) (h : At (midB F N s a R W) a' R' x) : At Z a' R' x := by
 obtain ⟨F', N', h⟩ := h
 exact ⟨F', N', h0.over h hW⟩
theorem seq_good {E : Env} {W : List Nat} {f : St → Res} {c : Code} (hw : ∀ s, Wf s (f s)) (hf : Good E f c) {Z : Base} {F : Nat → Prop} {N : Nm} {s : St} {a : Act} {R : World} {Q : Exit → Act → World → Prop} {s1 : St} {B : Res} (h0 : Rel Z F N s a R) (hW : ∀ u, inW u W = true → Z.W u) (hc : ∀ u, inW u (wrC c) = true → inW u W = true) (hn : (f s).nrm = some s1) (hB : Wf s1 B)
  (hp : ∀ p ∈ (seqR W s (f s) B).ps, p) (hk : ∀ e x a' R', Oc (seqR W s (f s) B) e x → At Z a' R' x → Q e a' R')
  {K : Act → World → Prop} (hd : ∀ (a' : Act) (R' : World), At (midB F N s a R W) a' R' s1 → (∀ p ∈ B.ps, p) → (∀ e x a'' R'', Oc B e x → At (midB F N s a R W) a'' R'' x → Q e a'' R'') → K a' R') : c.wp E.P (Exit.then K Q) a R := by
 refine hf (midB F N s a R W) s a R _ ⟨F, N, h0.start W⟩ (fun u hu => hc u hu) (all_append hp).1 fun e x a' R' ho hr => ?_
 rcases ho with ⟨t, cc, rfl, h1, h2, h3⟩ | ⟨rfl, h1, h2⟩
 ·obtain ⟨y, hy, hr'⟩ := oc_seq1 h0 (hw s) hn hB h1 h2 h3
  have := hk _ y a' R' hy (At.over h0 hW (hr' _ _ hr))
  cases t <;> exact this
 ·rw [hn] at h1
  obtain rfl := Option.some.inj h1
  refine hd a' R' hr (seq_needs (hw s) h2 hp) fun e x a'' R'' ho' hr' => ?_
  obtain ⟨y, hy, hr''⟩ := oc_seq2 h0 (hw s) hn hB h2 ho'
  exact hk e y a'' R'' hy (At.over h0 hW (hr'' _ _ hr'))
theorem inW_left {u : Nat} {A B : List Nat} (h : inW u A = true) : inW u (A ++ B) = true := by rw [inW_append, h]; rfl
theorem inW_right {u : Nat} {A B : List Nat} (h : inW u B = true) : inW u (A ++ B) = true := by rw [inW_append, h]; cases inW u A <;> rfl
theorem code_ok {E : Env} (ok : CodeOk E) {u : Nat} : ∀ (l : Nat) (c : Code) (hd : Bool), Good E (evH E u l c hd) c
 | _, .skip, _ => fun Z s a R Q h _ _ hk => wp_skip (hk _ s a R (.inr ⟨rfl, rfl, fun _ _ _ h => by cases h⟩) h)
 | _, .region id ops draw, _ => fun Z s a R Q h hW hp hk => by
  unfold evH at hp hk
  cases he : evR E ops.toList draw s with
  | none => rw [he] at hp; exact (hp (Stuck id) (List.mem_singleton.2 rfl)).elim
  | some x =>
   obtain ⟨s', ps⟩ := x
   rw [he] at hp hk
   obtain ⟨F, N, h⟩ := h
   have := region_ok ok.toEnvOk h (id := id) hW he hp (Q := Q) fun F' N' a' R' hr => hk _ s' a' R' (.inr ⟨rfl, rfl, fun _ _ _ h => by cases h⟩) ⟨F', N', hr⟩
   rwa [Array.toArray_toList] at this
 | _, .seq c d, hd => fun Z s a R Q h hW hp hk => by
  unfold evH at hp hk
  refine wp_seq ?_
  cases hn : (evH E u 0 c hd s).nrm with
  | none =>
   rw [hn] at hp hk
   refine code_ok ok 0 c hd Z s a R _ h (fun u hu => hW u (inW_left hu)) hp fun e x a' R' ho hr => ?_
   have := hk e x a' R' ho hr
   rcases ho with ⟨t, cc, rfl, _, _, _⟩ | ⟨rfl, h1, _⟩
   ·cases t <;> exact this
   ·rw [hn] at h1
    cases h1
  | some s1 =>
   rw [hn] at hp hk
   obtain ⟨F, N, h⟩ := h
   exact seq_good (fun s => wf_code ok 0 c hd s) (code_ok ok 0 c hd) h hW (fun u hu => inW_left hu) hn (wf_code ok 0 d _ s1) hp hk fun a' R' hr hp' hk' => code_ok ok 0 d _ _ s1 a' R' Q hr (fun u hu => inW_right hu) hp' hk'
 | _, .cond c x y, hd => fun Z s a R Q h hW hp hk => by
  unfold evH at hp hk
  split at hp
  ·rename_i g hg
   rw [hg] at hk
   simp only at hk
   obtain ⟨F, N, h⟩ := h
   have hev := raw_ok h (gok_nil _) hg
   generalize litH hd u = lt at hp hk
   cases lt with
   | true =>
    cases g with
    | true => exact wp_cond_true hev (code_ok ok 0 x false Z s a R Q ⟨F, N, h⟩ (fun u hu => hW u (inW_left hu)) hp hk)
    | false => exact wp_cond_false hev (code_ok ok 0 y false Z s a R Q ⟨F, N, h⟩ (fun u hu => hW u (inW_right hu)) hp hk)
   | false =>
   obtain ⟨hp1, hp2⟩ := all_append hp
   have main : ∀ z : Exit × St, Oc (bif g then evH E u 0 x false s else evH E u 0 y false s) z.1 z.2 → ∀ a' R', At (midB F N s a R (wrC x ++ wrC y)) a' R' z.2 → Q z.1 a' R' := fun z hz a' R' hr => by
    obtain ⟨w, hw, hr'⟩ := oc_join h (wf_code ok 0 x _ s) (wf_code ok 0 y _ s) hz
    exact hk z.1 w a' R' hw (At.over h hW (hr' _ _ hr))
   cases g with
   | true =>
    exact wp_cond_true hev (code_ok ok 0 x false (midB F N s a R (wrC x ++ wrC y)) s a R Q ⟨F, N, h.start _⟩ (fun u hu => inW_left hu) (gimps_ok hp1 fun q hq => by obtain rfl := List.mem_singleton.1 hq; rfl) fun e z a' R' ho hr => main (e, z) ho a' R' hr)
   | false =>
    exact wp_cond_false hev (code_ok ok 0 y false (midB F N s a R (wrC x ++ wrC y)) s a R Q ⟨F, N, h.start _⟩ (fun u hu => inW_right hu) (gimps_ok hp2 fun q hq => by obtain rfl := List.mem_singleton.1 hq; rfl) fun e z a' R' ho hr => main (e, z) ho a' R' hr)
  ·exact (hp (Stuck 1000001) (List.mem_singleton.2 rfl)).elim
 | _, .block id b, _ => fun Z s a R Q h hW hp hk => by
  refine wp_block ?_
  obtain ⟨F, N, h⟩ := h
  have hwf := wf_code ok (u := u) id b false s
  have hp' : ∀ p ∈ (evH E u id b false s).ps, p := fun p hm => hp p (by
   show p ∈ (blockR (wrC b) s id (evH E u id b false s)).ps
   unfold blockR
   cases hg : getO (some id) (evH E u id b false s).outs with
   | none => exact hm
   | some y => exact hm)
  refine code_ok ok id b false (midB F N s a R (wrC b)) s a R _ ⟨F, N, h.start _⟩ (fun u hu => hu) hp' fun e x a' R' ho hr => ?_
  have hk' : ∀ e x a' R', Oc (blockR (wrC b) s id (evH E u id b false s)) e x → At Z a' R' x → Q e a' R' := hk
  have hz : At Z a' R' x := At.over h hW hr
  generalize evH E u id b false s = A at *
  cases hg : getO (some id) A.outs with
  | none =>
   have hbl : blockR (wrC b) s id A = A := by unfold blockR; rw [hg]
   rw [hbl] at hk'
   have := hk' e x a' R' ho hz
   rcases ho with ⟨t, cc, rfl, h1, _, _⟩ | ⟨rfl, _, _⟩
   ·cases t with
    | none => exact this
    | some i =>
     have hne : i ≠ id := fun e => by subst e; rw [hg] at h1; cases h1
     show Exit.inBlock id Q (.exit i) a' R'
     unfold Exit.inBlock
     simp only [hne, if_false]
     exact this
   ·exact this
  | some y =>
   obtain ⟨c, y⟩ := y
   have hbl : blockR (wrC b) s id A = ⟨A.ps, dropO (some id) A.outs, match A.nrm with | none => some y | some z => some (mergeS (cval c) (wrC b) s y z)⟩ := by unfold blockR; rw [hg]
   rw [hbl] at hk'
   rcases ho with ⟨t, cc, rfl, h1, h2, h3⟩ | ⟨rfl, h1, h2⟩
   ·by_cases ht : t = some id
    ·subst ht
     rw [hg] at h1
     obtain ⟨rfl, rfl⟩ : c = cc ∧ y = x := by cases h1; exact ⟨rfl, rfl⟩
     have hall : AllF (dropO (some id) A.outs) := fun t' c' s' hg' => by
      rw [getO_dropO] at hg'
      split at hg'
      ·cases hg'
      ·rename_i hne
       exact h3 t' c' s' hne hg'
     show Exit.inBlock id Q (.exit id) a' R'
     unfold Exit.inBlock
     simp only [if_true]
     cases hn : A.nrm with
     | none =>
      rw [hn] at hk'
      exact hk' .normal y a' R' (.inr ⟨rfl, rfl, hall⟩) hz
     | some z =>
      rw [hn] at hk'
      have := lift_m (g := cval c) h (hwf.outs _ _ _ hg) (hwf.nrm _ hn) (by rw [h2]; rfl) _ _ hr
      exact hk' .normal _ a' R' (.inr ⟨rfl, rfl, hall⟩) (At.over h hW this)
    ·have ho' : getO t (dropO (some id) A.outs) = some (cc, x) := by rw [getO_dropO, if_neg ht]; exact h1
     have := hk' (Tag.ex t) x a' R' (.inl ⟨t, cc, rfl, ho', h2, fun t' c' s' hne hg' => by
      rw [getO_dropO] at hg'
      split at hg'
      ·cases hg'
      ·exact h3 t' c' s' hne hg'⟩) hz
     cases t with
     | none => exact this
     | some i =>
      have hne : i ≠ id := fun e => ht (by rw [e])
      show Exit.inBlock id Q (.exit i) a' R'
      unfold Exit.inBlock
      simp only [hne, if_false]
      exact this
   ·have hall : AllF (dropO (some id) A.outs) := fun t' c' s' hg' => by
     rw [getO_dropO] at hg'
     split at hg'
     ·cases hg'
     ·exact h2 t' c' s' hg'
    rw [h1] at hk'
    have := lift_m (g := cval c) h (hwf.outs _ _ _ hg) (hwf.nrm _ h1) (by rw [h2 _ _ _ hg]; rfl) _ _ hr
    exact hk' .normal _ a' R' (.inr ⟨rfl, rfl, hall⟩) (At.over h hW this)
 | l, .loop b, _ => fun Z s a R Q h hW hp hk => by
  unfold evH at hp hk
  cases hL : E.L l s with
  | some r =>
   obtain ⟨b0, ps, outs⟩ := r
   rw [hL] at hp hk
   have hb : b = b0 := hp _ (List.mem_cons_self ..)
   subst hb
   obtain ⟨F, N, h⟩ := h
   refine (ok.loops _ _ _ _ _ hL).2 Z F N a R Q h hW (fun p hm => hp p (List.mem_cons_of_mem _ hm)) fun e x F' N' a' R' ho hr => hk e x a' R' ?_ ⟨F', N', hr⟩
   rcases ho with ⟨t, c, rfl, h1, h2, h3⟩ | ⟨rfl, h1, h2⟩
   ·exact .inl ⟨t, c, rfl, h1, h2, h3⟩
   ·cases h1
  | none =>
  rw [hL] at hp hk
  have key : ∀ (n : Nat) (Z : Base) (s : St) (a : Act) (R : World) (Q : Exit → Act → World → Prop), At Z a R s → (∀ u, inW u (wrC b) = true → Z.W u) → (∀ p ∈ (loopR (wrC b) (evH E u 0 b true) n s).ps, p) → (∀ e x a' R', Oc (loopR (wrC b) (evH E u 0 b true) n s) e x → At Z a' R' x → Q e a' R') →
    Code.rounds E.P b Q n a R := fun n => by
   induction n with
   | zero => intro Z s a R Q h hW hp hk; exact (hp (Stuck 1000000) (List.mem_singleton.2 rfl)).elim
   | succ n ih =>
    intro Z s a R Q h hW hp hk
    rw [rounds_succ]
    unfold loopR at hp hk
    cases hn : (evH E u 0 b true s).nrm with
    | none =>
     rw [hn] at hp hk
     refine code_ok ok 0 b true Z s a R _ h hW hp fun e x a' R' ho hr => ?_
     have := hk e x a' R' ho hr
     rcases ho with ⟨t, cc, rfl, _, _, _⟩ | ⟨rfl, h1, _⟩
     ·cases t <;> exact this
     ·rw [hn] at h1
      cases h1
    | some s1 =>
     rw [hn] at hp hk
     obtain ⟨F, N, h⟩ := h
     exact seq_good (fun s => wf_code ok 0 b true s) (code_ok ok 0 b true) h hW (fun u hu => hu) hn (wf_loop (fun s => wf_code ok 0 b true s) n s1) hp hk fun a' R' hr hp' hk' => ih _ s1 a' R' Q hr (fun u hu => hu) hp' hk'
  exact wp_loop_rounds u (key u Z s a R Q h hW hp hk)
 | _, .exit id, _ => fun Z s a R Q h _ _ hk => wp_exit (hk _ s a R (.inl ⟨some id, none, rfl, by show (bif tagB (some id) (some id) then some (none, s) else none) = _; rw [tagB_self]; rfl, rfl, fun t' c x hne hg => by
   have h' : (bif tagB (some id) t' then some (none, s) else none) = some (c, x) := hg
   rw [tagB_ne (Ne.symm hne)] at h'
   cases h'⟩) h)
 | _, .ret, _ => fun Z s a R Q h _ _ hk => wp_ret (hk _ s a R (.inl ⟨none, none, rfl, rfl, rfl, fun t' c x hne hg => by
   have h' : (bif tagB none t' then some (none, s) else none) = some (c, x) := hg
   rw [tagB_ne (Ne.symm hne)] at h'
   cases h'⟩) h)
 | _, .rangeFunc _ _ _ _, _ => fun Z s a R Q _ _ hp _ => (hp (Stuck 1000002) (List.mem_singleton.2 rfl)).elim
 | _, .scope b, _ => fun Z s a R Q h hW hp hk => wp_scope_straight (code_ok ok 0 b false Z s a R _ h hW hp fun e x a' R' ho hr => by
   have := hk e x a' R' ho hr
   rcases ho with ⟨t, c, rfl, _⟩ | ⟨rfl, _⟩
   ·cases t <;> exact this
   ·exact this)
 | _, .label _, _ => fun Z s a R Q h _ _ hk => wp_label (hk .normal s a R (.inr ⟨rfl, rfl, fun t c x hg => by cases hg⟩) h)
 | _, .goto _, _ => fun Z s a R Q _ _ hp _ => (hp (Stuck 1000002) (List.mem_singleton.2 rfl)).elim
 | _, .refuse _, _ => fun Z s a R Q _ _ hp _ => (hp (Stuck 1000002) (List.mem_singleton.2 rfl)).elim
end Go.Proofs.YtkknpeeccejppaaDoor
