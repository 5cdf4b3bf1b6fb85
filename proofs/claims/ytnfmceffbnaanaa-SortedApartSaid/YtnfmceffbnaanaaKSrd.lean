/- made by a program (rowgen.py): SortedApart: for every input the law returns true, and each argument reads behind the call as it read before. -/
import Derived.Test.YtnfmceffbnaanaaKSrc

set_option maxRecDepth 100000
namespace Go.Proofs.Ytnfmceffbnaanaa
open Go.RowKit
mutual
def A.pk (ρ : Nat → Option Nat) : A → A
 | .own i off => match ρ i with
  | some j => .own j off
  | none => .dead
 | .ownx i base len k => match ρ i with
  | some j => .ownx j base len k
  | none => .dead
 | .sq i => match ρ i with
  | some j => .sq j
  | none => .dead
 | .vw i size lo n full => match ρ i with
  | some j => .vw j size lo n full
  | none => .dead
 | .el i k size off => match ρ i with
  | some j => .el j k size off
  | none => .dead
 | .mp i => match ρ i with
  | some j => .mp j
  | none => .dead
 | .dq i => match ρ i with
  | some j => .dq j
  | none => .dead
 | .iv i k => match ρ i with
  | some j => .iv j k
  | none => .dead
 | .de i k size off => match ρ i with
  | some j => .de j k size off
  | none => .dead
 | .ie i k m size off => match ρ i with
  | some j => .ie j k m size off
  | none => .dead
 | .fn f first caps => .fn f (pkL ρ first) (pkL ρ caps)
 | .agg xs => .agg (pkL ρ xs)
 | .tup xs => .tup (pkL ρ xs)
 | .ref l => .ref (pkL ρ l)
 | .opt u b x => .opt u b (x.pk ρ)
 | .v x => .v x
 | .sl c l => .sl c l
 | .nl => .nl
 | .it q vs => .it q vs
 | .dead => .dead
 | .av c n l => .av c n l
 | .rv xs => .rv (pkL ρ xs)
 | .vr i base lo m => match ρ i with
  | some j => .vr j base lo m
  | none => .dead
def pkL (ρ : Nat → Option Nat) : List A → List A
 | [] => []
 | x :: r => x.pk ρ :: pkL ρ r
end
theorem pkL_get {ρ : Nat → Option Nat} : ∀ {l : List A} {j : Nat} {x : A}, (pkL ρ l)[j]? = some x → ∃ y, l[j]? = some y ∧ x = y.pk ρ
 | [], j, x, h => by unfold pkL at h; cases j <;> cases h
 | y :: r, 0, x, h => by unfold pkL at h; cases h; exact ⟨y, rfl, rfl⟩
 | y :: r, j + 1, x, h => by unfold pkL at h; exact pkL_get (l := r) h
theorem pkL_length {ρ : Nat → Option Nat} : ∀ l : List A, (pkL ρ l).length = l.length
 | [] => by unfold pkL; rfl
 | y :: r => by unfold pkL; rw [List.length_cons, List.length_cons, pkL_length r]
theorem isAv_pk {ρ : Nat → Option Nat} {x : A} (h : isAv (x.pk ρ) = false) : isAv x = false := by
 cases x <;> first | rfl | (unfold A.pk at h; exact h)
theorem enc_pk (ρ : Nat → Option Nat) (c : TC) (d : U c) : ∀ x ∈ enc c d, x.pk ρ = x := fun x hx => by
 have := enc_plain c d x hx
 cases x <;> first | (unfold A.pk; rfl) | exact this.elim
def Pk (ρ : Nat → Option Nat) (N : Nm) (nx : Nat) (N' : Nm) (nx' : Nat) : Prop := ∀ i j, i < nx → ρ i = some j → j < nx' ∧ N'.b j = N.b i ∧ N'.q j = N.q i
section
variable {F : Nat → Prop} {N N' : Nm} {nx nx' : Nat} {R : World} {ρ : Nat → Option Nat}
theorem Hv.pk (st : Pk ρ N nx N' nx') {x : A} {y : Value} (h : Hv F N nx R x y) : Hv F N' nx' R (x.pk ρ) y := by
 induction h with
 | v x => unfold A.pk; exact .v x
 | @sl c l a cap ad h1 h2 h3 h4 ih =>
  unfold A.pk
  refine .sl ad h1 h2 h3 (fun i d j x y hd hx hy => ?_)
  have := ih i d j x y hd hx hy
  rwa [enc_pk ρ c d x (List.mem_of_getElem? hx)] at this
 | @ref l ad h1 h2 h3 ih =>
  unfold A.pk
  refine .ref ad h1 (fun j x hx => ?_) (fun j x y hx hy => ?_)
  ·obtain ⟨z, hz, rfl⟩ := pkL_get hx; exact h2 j z hz
  ·obtain ⟨z, hz, rfl⟩ := pkL_get hx; exact ih j z y hz hy
 | own h =>
  unfold A.pk
  split
  ·rename_i j hj
   obtain ⟨h1, h2, _⟩ := st _ _ h hj
   rw [← h2]; exact .own h1
  ·exact .dead _
 | ownx h =>
  unfold A.pk
  split
  ·rename_i j hj
   obtain ⟨h1, h2, _⟩ := st _ _ h hj
   rw [← h2]; exact .ownx h1
  ·exact .dead _
 | sq h =>
  unfold A.pk
  split
  ·rename_i j hj
   obtain ⟨h1, _, h2⟩ := st _ _ h hj
   rw [← h2]; exact .sq h1
  ·exact .dead _
 | vw h h1 h2 h3 =>
  unfold A.pk
  split
  ·rename_i j hj
   obtain ⟨k1, _, k2⟩ := st _ _ h hj
   exact .vw k1 h1 h2 (fun hn => by rw [k2]; exact h3 hn)
  ·exact .dead _
 | el h =>
  unfold A.pk
  split
  ·rename_i j hj
   obtain ⟨h1, _, h2⟩ := st _ _ h hj
   rw [← h2]; exact .el h1
  ·exact .dead _
 | dq h =>
  unfold A.pk
  split
  ·rename_i j hj
   obtain ⟨h1, _, h2⟩ := st _ _ h hj
   rw [← h2]; exact .dq h1
  ·exact .dead _
 | iv h =>
  unfold A.pk
  split
  ·rename_i j hj
   obtain ⟨h1, _, h2⟩ := st _ _ h hj
   rw [← h2]; exact .iv h1
  ·exact .dead _
 | de h =>
  unfold A.pk
  split
  ·rename_i j hj
   obtain ⟨h1, _, h2⟩ := st _ _ h hj
   rw [← h2]; exact .de h1
  ·exact .dead _
 | ie h =>
  unfold A.pk
  split
  ·rename_i j hj
   obtain ⟨h1, _, h2⟩ := st _ _ h hj
   rw [← h2]; exact .ie h1
  ·exact .dead _
 | mp h =>
  unfold A.pk
  split
  ·rename_i j hj
   obtain ⟨h1, h2, _⟩ := st _ _ h hj
   rw [← h2]; exact .mp h1
  ·exact .dead _
 | nl a => unfold A.pk; exact .nl a
 | it q vs y h => unfold A.pk; exact .it q vs y h
 | fn vs us h1 _ h3 _ ih2 ih4 =>
  unfold A.pk
  exact .fn vs us (by rw [pkL_length]; exact h1) (fun j x v hx hv => by obtain ⟨z, hz, rfl⟩ := pkL_get hx; exact ih2 j z v hz hv) (by rw [pkL_length]; exact h3) (fun j x v hx hv => by obtain ⟨z, hz, rfl⟩ := pkL_get hx; exact ih4 j z v hz hv)
 | agg vs h1 _ ih => unfold A.pk; exact .agg vs (by rw [pkL_length]; exact h1) (fun j x v hx hv => by obtain ⟨z, hz, rfl⟩ := pkL_get hx; exact ih j z v hz hv)
 | tup vs h1 _ ih => unfold A.pk; exact .tup vs (by rw [pkL_length]; exact h1) (fun j x v hx hv => by obtain ⟨z, hz, rfl⟩ := pkL_get hx; exact ih j z v hz hv)
 | dead y => unfold A.pk; exact .dead y
 | av h1 h2 => unfold A.pk; exact .av h1 h2
 | rv vs h1 _ h3 ih =>
  unfold A.pk
  refine .rv vs (by rw [pkL_length]; exact h1) (fun j x v hx hv => by obtain ⟨z, hz, rfl⟩ := pkL_get hx; exact ih j z v hz hv) (fun j x v hx hv hi => ?_)
  obtain ⟨z, hz, rfl⟩ := pkL_get hx
  exact h3 j z v hz hv (isAv_pk hi)
 | vr ad h k1 =>
  unfold A.pk
  split
  ·rename_i j hj
   obtain ⟨h1, h2, _⟩ := st _ _ h hj
   exact .vr ad h1 fun hm => by rw [h2]; exact k1 hm
  ·exact .dead _
theorem HW.pk (st : Pk ρ N nx N' nx') : ∀ {xs : List A} {us : List Value}, HW F N nx R xs us → HW F N' nx' R (pkL ρ xs) us
 | [], _, h => by unfold pkL; exact h
 | x :: r, _, ⟨v, t, h1, h2, h3, h4⟩ => by
  unfold pkL
  exact ⟨v, t, h1, h2.pk st, fun hi => h3 (isAv_pk hi), HW.pk st h4⟩
theorem HL.pk (st : Pk ρ N nx N' nx') : ∀ {xs : List A} {vs : List Value}, HL F N nx R xs vs → HL F N' nx' R (pkL ρ xs) vs
 | [], _, h => by unfold pkL; exact h
 | x :: r, _, ⟨v, vs, h1, h2, h3⟩ => by
  unfold pkL
  exact ⟨v, vs, h1, h2.pk st, HL.pk st h3⟩
end
def Els.pk (ρ : Nat → Option Nat) : Els → Els
 | .lst cs => .lst (cs.map (pkL ρ))
 | .ty c l => .ty c l
def Ob.pk (ρ : Nat → Option Nat) : Ob → Ob
 | .box e cs => .box e (pkL ρ cs)
 | .arr e size els => .arr e size (els.pk ρ)
 | .map k v l => .map k v l
 | .sit s pos => .sit s pos
 | .deep e c l => .deep e c l
 | .rcd e xs => .rcd e (pkL ρ xs)
 | .abs m c l => .abs m c l
theorem pkL_enc (ρ : Nat → Option Nat) (c : TC) (d : U c) : pkL ρ (enc c d) = enc c d := by
 have : ∀ l : List A, (∀ x ∈ l, x.pk ρ = x) → pkL ρ l = l := fun l => by
  induction l with
  | nil => intro _; unfold pkL; rfl
  | cons x r ih => intro h; unfold pkL; rw [h x (List.mem_cons_self ..), ih fun y hy => h y (List.mem_cons_of_mem _ hy)]
 exact this _ (enc_pk ρ c d)
theorem valA_pk (ρ : Nat → Option Nat) (c : TC) (d : U c) : (valA c d).pk ρ = valA c d := by
 unfold valA
 cases c.isAgg with
 | true =>
  show (aggA (enc c d)).pk ρ = aggA (enc c d)
  unfold aggA
  split
  ·unfold A.pk; rfl
  ·unfold A.pk; rw [pkL_enc]
 | false =>
  have hp := enc_pk ρ c d
  simp only [cond_false]
  generalize enc c d = l at hp ⊢
  cases l with
  | nil => unfold A.pk; rfl
  | cons x r => exact hp x (List.mem_cons_self ..)
section
variable {F : Nat → Prop} {N N' : Nm} {nx nx' : Nat} {o o' : Objs} {R : World} {ρ : Nat → Option Nat} {i j : Nat} {ob : Ob}
theorem ObR.pk (st : Pk ρ N nx N' nx') (hi : i < nx) (hj : ρ i = some j) (h : ObR F N nx R i ob) : ObR F N' nx' R j (ob.pk ρ) := by
 obtain ⟨_, sb, sq⟩ := st i j hi hj
 cases ob with
 | box e cs =>
  obtain ⟨vs, h1, h2⟩ := h
  exact ⟨vs, h1.pk st, by rw [sb]; exact h2⟩
 | arr e size els =>
  obtain ⟨zs, h1, h2⟩ := h
  cases els with
  | lst cs =>
   have hn : (Els.pk ρ (.lst cs)).n = cs.length := by simp [Els.pk, Els.n]
   refine ⟨zs, by rw [sq, hn]; exact h1, fun k hk => ?_⟩
   rw [hn] at hk
   have := (h2 k hk).pk st
   show HL F N' nx' R (nthL (cs.map (pkL ρ)) k) _
   rw [nthL_get, List.getD_eq_getElem?_getD, List.getElem?_map]
   have h3 : (Els.lst cs).nth k = cs.getD k [] := nthL_get cs k
   rw [h3, List.getD_eq_getElem?_getD] at this
   have hk' : cs[k]? = some cs[k] := List.getElem?_eq_getElem hk
   rw [hk'] at this ⊢
   exact this
  | ty c l =>
   refine ⟨zs, by rw [sq]; exact h1, fun k hk => ?_⟩
   have := (h2 k hk).pk st
   have e : pkL ρ ((Els.ty c l).nth k) = (Els.ty c l).nth k := pkL_enc ρ c _
   rw [e] at this
   exact this
 | map k v l =>
  obtain ⟨es, cl, h1, h2, h3⟩ := h
  refine ⟨es, cl, by rw [sb]; exact h1, h2, fun j p e hp he => ⟨(h3 j p e hp he).1, ?_⟩⟩
  have := (h3 j p e hp he).2.pk st
  rwa [valA_pk] at this
 | sit s pos =>
  show R.heap[N'.b j]? = _
  rw [sb]
  exact h
 | deep e c l =>
  obtain ⟨col, c', zs, h1, h2, h3, h4, h5⟩ := h
  have hj' := (st i j hi hj).1
  refine ⟨col, c', zs, h1, by rw [sq]; exact h2, fun k d hd => ?_, fun k d hd => ?_, by rw [sq]; exact h5⟩
  ·have go : ∀ (cs : List A) (vs : List Value), (∀ x ∈ cs, x.pk ρ = x) → HL F N nx R (encI i k cs) vs → HL F N' nx' R (encI j k cs) vs := fun cs => by
    induction cs with
    | nil => intro vs _ hh; rw [hh.inv0]; exact HL.nil
    | cons x r ih =>
     intro vs hc hh
     have hx := hc x (List.mem_cons_self ..)
     have hr := fun y hy => hc y (List.mem_cons_of_mem _ hy)
     cases x
     case sl c2 l2 =>
      obtain ⟨w, ws, rfl, w1, w2⟩ := hh.inv
      rw [w1.iv_inv.2, ← sq]
      exact HL.cons (.iv hj') (ih ws hr w2)
     all_goals
      obtain ⟨w, ws, rfl, w1, w2⟩ := hh.inv
      have w3 := w1.pk st
      rw [hx] at w3
      exact HL.cons w3 (ih ws hr w2)
   exact go _ _ (enc_pk ρ c d) (h3 k d hd)
  ·obtain ⟨l', e', us, k1, k2, k3⟩ := h4 k d hd
   refine ⟨l', e', us, k1, by rw [sq]; exact k2, fun m hm => ?_⟩
   have := (k3 m hm).pk st
   rwa [pkL_enc] at this
 | rcd e xs =>
  obtain ⟨us, h1, h2⟩ := h
  exact ⟨us, h1.pk st, by rw [sb]; exact h2⟩
 | abs m c l =>
  obtain ⟨hh, h1, h2⟩ := h
  exact ⟨hh, by rw [sq]; exact h1, by rw [sq]; exact h2⟩
theorem foot_pk (st : Pk ρ N nx N' nx') (hi : i < nx) (hj : ρ i = some j) {g : Nat} : foot N' j (ob.pk ρ) g ↔ foot N i ob g := by
 obtain ⟨_, sb, sq⟩ := st i j hi hj
 cases ob <;> simp only [foot, Ob.pk, sb, sq]
theorem HRel.pk (h : HRel F N nx o R) (st : Pk ρ N nx N' nx') (ho : ∀ j ob', lookO j o' = some ob' → ∃ i ob, ρ i = some j ∧ lookO i o = some ob ∧ ob' = ob.pk ρ) : HRel F N' nx' o' R ∧ ∀ g, Foot N' o' g → Foot N o g := by
 refine ⟨⟨h.flt, fun j ob' hj => ?_, fun j ob' g hj hg => ?_, fun j k x y g hj hk hx hy => ?_, h.gl⟩, fun g ⟨j, ob', hj, hg⟩ => ?_⟩
 ·obtain ⟨i, ob, h1, h2, rfl⟩ := ho j ob' hj
  obtain ⟨h3, h4⟩ := h.ob i ob h2
  exact ⟨(st i j h3 h1).1, h4.pk st h3 h1⟩
 ·obtain ⟨i, ob, h1, h2, rfl⟩ := ho j ob' hj
  exact h.ff i ob g h2 ((foot_pk st (h.ob i ob h2).1 h1).1 hg)
 ·obtain ⟨i, ob, h1, h2, rfl⟩ := ho j x hj
  obtain ⟨i', ob', k1, k2, rfl⟩ := ho k y hk
  have := h.sep i i' ob ob' g h2 k2 ((foot_pk st (h.ob i ob h2).1 h1).1 hx) ((foot_pk st (h.ob i' ob' k2).1 k1).1 hy)
  subst this
  rw [h1] at k1
  exact Option.some.inj k1
 ·obtain ⟨i, ob, h1, h2, rfl⟩ := ho j ob' hj
  exact ⟨i, ob, h2, (foot_pk st (h.ob i ob h2).1 h1).1 hg⟩
end
abbrev Ren2 := List (Nat × Nat)
def fwd : Ren2 → Nat → Option Nat
 | [], _ => none
 | (k, j) :: r, i => bif Nat.beq k i then some j else fwd r i
def bck : Ren2 → Nat → Option Nat
 | [], _ => none
 | (k, j) :: r, i => bif Nat.beq j i then some k else bck r i
def rho2 (nb : Nat) (L : Ren2) (i : Nat) : Option Nat := bif Nat.blt i nb then some i else fwd L i
def inv2 (nb : Nat) (L : Ren2) (j : Nat) : Nat := bif Nat.blt j nb then j else match bck L j with
 | some k => k
 | none => 0
def okRen (nb nx' : Nat) : Ren2 → Bool
 | [] => true
 | (k, j) :: r => Nat.ble nb k && (Nat.ble nb j && (Nat.blt j nx' && (isNone (fwd r k) && (isNone (bck r j) && okRen nb nx' r))))
theorem isNone_iff {o : Option Nat} : isNone o = true ↔ o = none := by cases o <;> simp [isNone]
theorem fwd_bck {nb nx' : Nat} : ∀ {L : Ren2} {i j : Nat}, okRen nb nx' L = true → fwd L i = some j → bck L j = some i ∧ nb ≤ i ∧ nb ≤ j ∧ j < nx'
 | [], i, j, _, h => by cases h
 | (k, m) :: r, i, j, h0, h => by
  unfold okRen at h0
  simp only [Bool.and_eq_true] at h0
  obtain ⟨a1, a2, a3, a4, a5, a6⟩ := h0
  unfold fwd at h
  cases hb : Nat.beq k i with
  | true =>
   rw [hb] at h
   cases h
   obtain rfl := Nat.eq_of_beq_eq_true hb
   refine ⟨?_, Nat.le_of_ble_eq_true a1, Nat.le_of_ble_eq_true a2, Nat.le_of_ble_eq_true a3⟩
   unfold bck
   rw [beq_self]
   rfl
  | false =>
   rw [hb] at h
   obtain ⟨h1, h2⟩ := fwd_bck a6 h
   refine ⟨?_, h2⟩
   unfold bck
   cases hm : Nat.beq m j with
   | true =>
    obtain rfl := Nat.eq_of_beq_eq_true hm
    rw [isNone_iff.1 a5] at h1
    cases h1
   | false => exact h1
def nm2 (N : Nm) (nb : Nat) (L : Ren2) : Nm := ⟨fun j => N.b (inv2 nb L j), fun j => N.q (inv2 nb L j)⟩
theorem inv_rho {nb nx' : Nat} {L : Ren2} (h0 : okRen nb nx' L = true) {i j : Nat} (h : rho2 nb L i = some j) : inv2 nb L j = i ∧ (i < nb ∧ j = i ∨ nb ≤ i ∧ nb ≤ j ∧ j < nx') := by
 unfold rho2 at h
 cases hb : Nat.blt i nb with
 | true =>
  rw [hb] at h
  cases h
  refine ⟨?_, .inl ⟨Nat.le_of_ble_eq_true hb, rfl⟩⟩
  unfold inv2
  rw [hb]
  rfl
 | false =>
  rw [hb] at h
  obtain ⟨h1, h2, h3, h4⟩ := fwd_bck h0 h
  refine ⟨?_, .inr ⟨h2, h3, h4⟩⟩
  unfold inv2
  have : Nat.blt j nb = false := by
   cases hj : Nat.blt j nb with
   | false => rfl
   | true => exact absurd (Nat.le_of_ble_eq_true hj) (by omega)
  rw [this, h1]
  rfl
theorem pk2 {N : Nm} {nb n nx' : Nat} {L : Ren2} (h0 : okRen nb nx' L = true) (hnb : nb ≤ nx') : Pk (rho2 nb L) N n (nm2 N nb L) nx' := fun i j _ hj => by
 obtain ⟨h1, h2⟩ := inv_rho h0 hj
 refine ⟨?_, by show N.b (inv2 nb L j) = _; rw [h1], by show N.q (inv2 nb L j) = _; rw [h1]⟩
 rcases h2 with ⟨h2, rfl⟩ | ⟨_, _, h2⟩
 ·omega
 ·exact h2
def pkNew (nb : Nat) (L : Ren2) (o : Objs) : Ren2 → Objs
 | [] => []
 | (k, j) :: r => (j, match lookO k o with
  | some ob => some (ob.pk (rho2 nb L))
  | none => none) :: pkNew nb L o r
def pkOld (nb : Nat) (L : Ren2) (o : Objs) : List Nat → Objs
 | [] => []
 | k :: r => bif Nat.blt k nb then (k, match lookO k o with
  | some ob => some (ob.pk (rho2 nb L))
  | none => none) :: pkOld nb L o r else pkOld nb L o r
theorem lookO_pkNew {nb : Nat} {L : Ren2} {o : Objs} {j : Nat} {ob' : Ob} : ∀ {r : Ren2}, lookO j (pkNew nb L o r) = some ob' → ∃ k ob, (k, j) ∈ r ∧ lookO k o = some ob ∧ ob' = ob.pk (rho2 nb L)
 | [], h => by cases h
 | (k, m) :: r, h => by
  unfold pkNew at h
  have h' : (bif Nat.beq m j then (match lookO k o with | some ob => some (ob.pk (rho2 nb L)) | none => none) else lookO j (pkNew nb L o r)) = some ob' := h
  cases hb : Nat.beq m j with
  | true =>
   rw [hb] at h'
   obtain rfl := Nat.eq_of_beq_eq_true hb
   simp only [cond_true] at h'
   split at h' <;> first | (cases h'; done) | skip
   rename_i ob hob
   cases h'
   exact ⟨k, ob, List.mem_cons_self .., hob, rfl⟩
  | false =>
   rw [hb] at h'
   obtain ⟨k', ob, h1, h2⟩ := lookO_pkNew h'
   exact ⟨k', ob, List.mem_cons_of_mem _ h1, h2⟩
theorem lookO_pkOld {nb : Nat} {L : Ren2} {o : Objs} {j : Nat} {ob' : Ob} : ∀ {r : List Nat}, lookO j (pkOld nb L o r) = some ob' → j < nb ∧ ∃ ob, lookO j o = some ob ∧ ob' = ob.pk (rho2 nb L)
 | [], h => by cases h
 | k :: r, h => by
  unfold pkOld at h
  cases hk : Nat.blt k nb with
  | false => rw [hk] at h; exact lookO_pkOld h
  | true =>
   rw [hk] at h
   have h' : (bif Nat.beq k j then (match lookO k o with | some ob => some (ob.pk (rho2 nb L)) | none => none) else lookO j (pkOld nb L o r)) = some ob' := h
   cases hb : Nat.beq k j with
   | true =>
    rw [hb] at h'
    obtain rfl := Nat.eq_of_beq_eq_true hb
    simp only [cond_true] at h'
    split at h' <;> first | (cases h'; done) | skip
    rename_i ob hob
    cases h'
    exact ⟨Nat.le_of_ble_eq_true hk, ob, hob, rfl⟩
   | false => rw [hb] at h'; exact lookO_pkOld h'
theorem keysO_pkOld {nb : Nat} {L : Ren2} {o : Objs} {j : Nat} (hj : j < nb) : ∀ {r : List Nat}, j ∈ r → j ∈ keysO (pkOld nb L o r)
 | [], h => by cases h
 | k :: r, h => by
  unfold pkOld
  rcases List.mem_cons.1 h with rfl | h
  ·rw [show Nat.blt j nb = true from Nat.ble_eq_true_of_le hj]
   exact List.mem_cons_self ..
  ·cases Nat.blt k nb with
   | true => exact List.mem_cons_of_mem _ (keysO_pkOld hj h)
   | false => exact keysO_pkOld hj h
theorem lookO_split {i : Nat} {ob : Ob} {A B : Objs} (h : lookO i (A ++ B) = some ob) : (i ∈ keysO A ∧ lookO i A = some ob) ∨ (i ∉ keysO A ∧ lookO i B = some ob) := by
 by_cases hk : i ∈ keysO A
 ·rw [lookO_in hk] at h; exact .inl ⟨hk, h⟩
 ·rw [lookO_none hk] at h; exact .inr ⟨hk, h⟩
theorem ren_mem {nb nx' : Nat} : ∀ {L : Ren2} {k j : Nat}, okRen nb nx' L = true → (k, j) ∈ L → rho2 nb L k = some j
 | [], k, j, _, h => by cases h
 | (a, b) :: r, k, j, h0, h => by
  have h00 := h0
  unfold okRen at h0
  simp only [Bool.and_eq_true] at h0
  obtain ⟨a1, a2, a3, a4, a5, a6⟩ := h0
  have hge : ∀ {L : Ren2} {k j : Nat}, okRen nb nx' L = true → (k, j) ∈ L → nb ≤ k := fun {L} => by
   induction L with
   | nil => intro k j _ h; cases h
   | cons p r ih =>
    intro k j h0 h
    obtain ⟨x, y⟩ := p
    unfold okRen at h0
    simp only [Bool.and_eq_true] at h0
    rcases List.mem_cons.1 h with e | h
    ·cases e; exact Nat.le_of_ble_eq_true h0.1
    ·exact ih h0.2.2.2.2.2 h
  have hk : Nat.blt k nb = false := by
   cases hb : Nat.blt k nb with
   | false => rfl
   | true => exact absurd (hge h00 h) (by have := Nat.le_of_ble_eq_true hb; omega)
  have ih : ∀ {L : Ren2} {k j : Nat}, okRen nb nx' L = true → (k, j) ∈ L → fwd L k = some j := fun {L} => by
   induction L with
   | nil => intro k j _ h; cases h
   | cons p r ih =>
    intro k j h0 h
    obtain ⟨x, y⟩ := p
    unfold okRen at h0
    simp only [Bool.and_eq_true] at h0
    obtain ⟨_, _, _, b4, _, b6⟩ := h0
    unfold fwd
    rcases List.mem_cons.1 h with e | h
    ·cases e; rw [beq_self]; rfl
    ·have h1 := ih b6 h
     cases hb : Nat.beq x k with
     | true =>
      obtain rfl := Nat.eq_of_beq_eq_true hb
      rw [isNone_iff.1 b4] at h1
      cases h1
     | false => exact h1
  unfold rho2
  rw [hk]
  exact ih h00 h
section
variable {F : Nat → Prop} {N : Nm} {nx : Nat} {o : Objs} {R : World} {ρ : Nat → Option Nat}
theorem pkL_id {xs : List A} (h : ∀ (j : Nat) (x : A), xs[j]? = some x → x.pk ρ = x) : pkL ρ xs = xs := by
 induction xs with
 | nil => unfold pkL; rfl
 | cons x r ih => unfold pkL; rw [h 0 x rfl, ih fun j y hy => h (j + 1) y hy]
theorem Hv.pk_id (hρ : ∀ k, k < nx → ρ k = some k) {x : A} {y : Value} (h : Hv F N nx R x y) : x.pk ρ = x := by
 induction h with
 | v x => unfold A.pk; rfl
 | sl => unfold A.pk; rfl
 | @ref l ad h1 h2 h3 ih =>
  unfold A.pk
  rw [pkL_id fun j x hx => by obtain ⟨y, hy⟩ := h2 j x hx; exact ih j x y hx hy]
 | own h => unfold A.pk; rw [hρ _ h]
 | ownx h => unfold A.pk; rw [hρ _ h]
 | sq h => unfold A.pk; rw [hρ _ h]
 | vw h => unfold A.pk; rw [hρ _ h]
 | el h => unfold A.pk; rw [hρ _ h]
 | dq h => unfold A.pk; rw [hρ _ h]
 | iv h => unfold A.pk; rw [hρ _ h]
 | de h => unfold A.pk; rw [hρ _ h]
 | ie h => unfold A.pk; rw [hρ _ h]
 | mp h => unfold A.pk; rw [hρ _ h]
 | nl a => unfold A.pk; rfl
 | it q vs y h => unfold A.pk; rfl
 | @fn f first caps vs us h1 _ h3 _ ih2 ih4 =>
  unfold A.pk
  have e1 : pkL ρ first = first := pkL_id fun j x hx => by
   have hj : j < vs.length := by rw [h1]; exact (List.getElem?_eq_some_iff.1 hx).1
   exact ih2 j x _ hx (List.getElem?_eq_getElem hj)
  have e2 : pkL ρ caps = caps := pkL_id fun j x hx => by
   have hj : j < us.length := by rw [h3]; exact (List.getElem?_eq_some_iff.1 hx).1
   exact ih4 j x _ hx (List.getElem?_eq_getElem hj)
  rw [e1, e2]
 | @agg xs vs h1 _ ih =>
  unfold A.pk
  rw [pkL_id fun j x hx => by
   have hj : j < vs.length := by rw [h1]; exact (List.getElem?_eq_some_iff.1 hx).1
   exact ih j x _ hx (List.getElem?_eq_getElem hj)]
 | @tup xs vs h1 _ ih =>
  unfold A.pk
  rw [pkL_id fun j x hx => by
   have hj : j < vs.length := by rw [h1]; exact (List.getElem?_eq_some_iff.1 hx).1
   exact ih j x _ hx (List.getElem?_eq_getElem hj)]
 | dead y => unfold A.pk; rfl
 | av h1 h2 => unfold A.pk; rfl
 | @rv xs vs h1 _ _ ih =>
  unfold A.pk
  rw [pkL_id fun j x hx => by
   have hj : j < vs.length := by rw [h1]; exact (List.getElem?_eq_some_iff.1 hx).1
   exact ih j x _ hx (List.getElem?_eq_getElem hj)]
 | vr ad h _ => unfold A.pk; rw [hρ _ h]
theorem HW.pk_id (hρ : ∀ k, k < nx → ρ k = some k) : ∀ {xs : List A} {us : List Value}, HW F N nx R xs us → pkL ρ xs = xs
 | [], _, _ => by unfold pkL; rfl
 | x :: r, _, ⟨v, t, _, h2, _, h3⟩ => by unfold pkL; rw [h2.pk_id hρ, HW.pk_id hρ h3]
theorem HL.pk_id (hρ : ∀ k, k < nx → ρ k = some k) : ∀ {xs : List A} {vs : List Value}, HL F N nx R xs vs → pkL ρ xs = xs
 | [], _, _ => by unfold pkL; rfl
 | x :: r, _, ⟨v, vs, _, h2, h3⟩ => by unfold pkL; rw [h2.pk_id hρ, HL.pk_id hρ h3]
theorem HRel.pk_id (h : HRel F N nx o R) (hρ : ∀ k, k < nx → ρ k = some k) {i : Nat} {ob : Ob} (hi : lookO i o = some ob) : ob.pk ρ = ob := by
 obtain ⟨_, h2⟩ := h.ob i ob hi
 cases ob with
 | box e cs =>
  obtain ⟨vs, h1, _⟩ := h2
  show Ob.box e (pkL ρ cs) = _
  rw [h1.pk_id hρ]
 | deep e c l => rfl
 | arr e size els =>
  cases els with
  | ty c l => rfl
  | lst cs =>
   obtain ⟨zs, _, h3⟩ := h2
   show Ob.arr e size (.lst (cs.map (pkL ρ))) = _
   congr 2
   apply List.ext_getElem?
   intro k
   rw [List.getElem?_map]
   cases hk : cs[k]? with
   | none => rfl
   | some c =>
    have hk' : k < cs.length := (List.getElem?_eq_some_iff.1 hk).1
    have := (h3 k hk').pk_id hρ
    have e : (Els.lst cs).nth k = c := by
     show nthL cs k = c
     rw [nthL_get, List.getD_eq_getElem?_getD, hk]
     rfl
    rw [e] at this
    exact congrArg some this
 | map k v l => rfl
 | sit s pos => rfl
 | rcd e xs =>
  obtain ⟨us, h1, _⟩ := h2
  show Ob.rcd e (pkL ρ xs) = _
  rw [h1.pk_id hρ]
 | abs m c l => rfl
end
def pkObjs (nb : Nat) (L : Ren2) (o ob : Objs) : Objs := pkNew nb L o L ++ (pkOld nb L o (newK o ob.length) ++ ob)
theorem pkObjs_ok {F : Nat → Prop} {N : Nm} {nb n nx' : Nat} {o ob d : Objs} {R : World} {L : Ren2} (h : HRel F N n o R) (h0 : okRen nb nx' L = true) (hnb : nb ≤ nx') (hd : o = d ++ ob) {F0 : Nat → Prop} {N0 : Nm} {R0 : World} (hb : HRel F0 N0 nb ob R0) :
  HRel F (nm2 N nb L) nx' (pkObjs nb L o ob) R ∧ ∀ g, Foot (nm2 N nb L) (pkObjs nb L o ob) g → Foot N o g := by
 have small : ∀ k, k < nb → rho2 nb L k = some k := fun k hk => by unfold rho2; rw [show Nat.blt k nb = true from Nat.ble_eq_true_of_le hk]; rfl
 refine h.pk (pk2 h0 hnb) fun j ob' hj => ?_
 unfold pkObjs at hj
 rcases lookO_split hj with ⟨_, h1⟩ | ⟨_, h1⟩
 ·obtain ⟨k, x, h2, h3, h4⟩ := lookO_pkNew h1
  exact ⟨k, x, ren_mem h0 h2, h3, h4⟩
 ·rcases lookO_split h1 with ⟨_, h2⟩ | ⟨h2, h3⟩
  ·obtain ⟨h3, x, h4, h5⟩ := lookO_pkOld h2
   exact ⟨j, x, small j h3, h4, h5⟩
  ·have h4 := (hb.ob j ob' h3).1
   refine ⟨j, ob', small j h4, ?_, (hb.pk_id small h3).symm⟩
   subst hd
   rw [lookO_newK fun hm => h2 (keysO_pkOld h4 hm)]
   exact h3
end Go.Proofs.Ytnfmceffbnaanaa
namespace Go.Proofs.Ytnfmceffbnaanaa
open Go.RowKit
def resV (E : Env) (s : St) : ResultVar → R2
 | .tmp t => match s.ev [] (.tmp t) with
  | some x => some (x, [])
  | none => none
 | .cell a t => loadE E s [] t (.tmp a)
def resL (E : Env) (s : St) : List ResultVar → Option (List A × List Prop)
 | [] => some ([], [])
 | r :: rs => match resV E s r with
  | some (v, ps) => match resL E s rs with
   | some (vs, qs) => some (v :: vs, ps ++ qs)
   | none => none
  | none => none
def tupA : List A → A
 | [x] => x
 | l => match rawL l with
  | some vs => .v (.tuple vs.toArray)
  | none => .tup l
def tupV : List Value → Value
 | [v] => v
 | l => .tuple l.toArray
def resM (tmps : Array Value) : ResultVar → Sem Value
 | .tmp t => pure (tmps.getD t undef)
 | .cell a t => do loadVar t (← asAddr (tmps.getD a undef))
theorem results_eq (fn : Func) (tmps : Array Value) : results fn tmps = (do let vs ← fn.results.mapM (resM tmps); pure (if h : vs.size = 1 then vs[0] else .tuple vs)) := rfl
section
variable {E : Env} {Z : Base} {F : Nat → Prop} {N : Nm} {s : St} {a : Act} {R : World}
theorem tupA_ok {nx : Nat} {l : List A} {vs : List Value} (h : HL F N nx R l vs) : Hv F N nx R (tupA l) (tupV vs) := by
 match l, h with
 | [], h =>
  rw [h.inv0]
  exact .v _
 | [x], h =>
  obtain ⟨v, us, rfl, h2, h3⟩ := h.inv
  rw [h3.inv0]
  exact h2
 | x :: y :: r, h =>
  obtain ⟨v, us, rfl, h2, h3⟩ := h.inv
  obtain ⟨w, ws, rfl, h4, h5⟩ := h3.inv
  show Hv F N nx R (match rawL (x :: y :: r) with | some vs => .v (.tuple vs.toArray) | none => .tup (x :: y :: r)) (.tuple (v :: w :: ws).toArray)
  split
  ·rename_i us hu
   rw [rawL_ok hu h]
   exact .v _
  ·exact Hv.of_tup h
theorem resV_ok (h : Rel Z F N s a R) {r : ResultVar} {x : A} {ps : List Prop} (he : resV E s r = some (x, ps)) (hp : ∀ p ∈ ps, p) : ∃ v, Hv F N s.nx R x v ∧ (resM a.tmps r).run E.P R = .ok v R := by
 cases r with
 | tmp t =>
  unfold resV at he
  simp only at he
  split at he <;> first | (cases he; done) | skip
  rename_i z hz
  cases he
  exact ⟨_, (ev_ok h (gok_nil _) hz).2, rfl⟩
 | cell c t =>
  obtain ⟨v, h1, h2⟩ := load_ok h (gok_nil _) he hp
  refine ⟨v, h1, ?_⟩
  have h3 : (Instr.loadAt t (a.tmps.getD c undef)).run E.P R = .ok v R := h2 R (Below.refl _ _)
  show (do loadVar t (← asAddr (a.tmps.getD c undef)) : Sem Value).run E.P R = _
  unfold Instr.loadAt at h3
  generalize a.tmps.getD c undef = p at *
  cases p <;> first | (simp [Instr.sureAddr] at h3; done) | skip
  rename_i ad
  cases ad with
  | none => simp [Instr.sureAddr] at h3
  | some ad => simpa [Instr.sureAddr, asAddr] using h3
theorem resL_ok (h : Rel Z F N s a R) : ∀ {l : List ResultVar} {xs : List A} {ps : List Prop}, resL E s l = some (xs, ps) → (∀ p ∈ ps, p) → ∃ vs, HL F N s.nx R xs vs ∧ (l.mapM (resM a.tmps)).run E.P R = .ok vs R
 | [], xs, ps, he, _ => by cases he; exact ⟨[], HL.nil, rfl⟩
 | r :: rs, xs, ps, he, hp => by
  unfold resL at he
  split at he <;> first | (cases he; done) | skip
  rename_i x ps1 h1
  split at he <;> first | (cases he; done) | skip
  rename_i xs1 qs h2
  cases he
  obtain ⟨v, g1, g2⟩ := resV_ok h h1 fun p hm => hp p (List.mem_append.2 (.inl hm))
  obtain ⟨vs, g3, g4⟩ := resL_ok h h2 fun p hm => hp p (List.mem_append.2 (.inr hm))
  refine ⟨v :: vs, HL.cons g1 g3, ?_⟩
  rw [List.mapM_cons]
  simp only [Sem.run_bind, g2, Result.andThen_ok, g4, Sem.run_pure]
theorem results_ok (h : Rel Z F N s a R) {fn : Func} {xs : List A} {ps : List Prop} (he : resL E s fn.results.toList = some (xs, ps)) (hp : ∀ p ∈ ps, p) : ∃ v, Hv F N s.nx R (tupA xs) v ∧ (results fn a.tmps).run E.P R = .ok v R := by
 obtain ⟨vs, h1, h2⟩ := resL_ok h he hp
 refine ⟨tupV vs, tupA_ok h1, ?_⟩
 rw [results_eq, Array.mapM_eq_mapM_toList]
 simp only [Sem.run_bind, Sem.run_map, h2, Result.andThen_ok, Sem.run_pure]
 congr 1
 match vs with
 | [] => simp [tupV]
 | [x] => simp [tupV]
 | x :: y :: r => simp [tupV]
end
def refsA (nb : Nat) (o : Objs) : Nat → A → List Nat
 | 0, _ => []
 | d + 1, x => match x with
  | .sq i | .vw i _ _ _ _ | .el i _ _ _ | .own i _ | .ownx i _ _ _ | .mp i | .dq i | .iv i _ | .de i _ _ _ | .ie i _ _ _ _ | .vr i _ _ _ => bif Nat.blt i nb then [] else i :: (match lookO i o with
   | some (.box _ cs) => cs.flatMap (refsA nb o d)
   | some (.rcd _ cs) => cs.flatMap (refsA nb o d)
   | some (.arr _ _ (.lst cs)) => cs.flatMap fun l => l.flatMap (refsA nb o d)
   | _ => [])
  | .agg xs => xs.flatMap (refsA nb o d)
  | .rv xs => xs.flatMap (refsA nb o d)
  | .tup xs => xs.flatMap (refsA nb o d)
  | .fn _ xs ys => xs.flatMap (refsA nb o d) ++ ys.flatMap (refsA nb o d)
  | _ => []
def refsO (nb : Nat) (o : Objs) : List Nat → List Nat
 | [] => []
 | k :: r => (bif Nat.blt k nb then (match lookO k o with
  | some (.box _ cs) => cs.flatMap (refsA nb o 4)
  | some (.rcd _ cs) => cs.flatMap (refsA nb o 4)
  | some (.arr _ _ (.lst cs)) => cs.flatMap fun l => l.flatMap (refsA nb o 4)
  | _ => []) else []) ++ refsO nb o r
def mkRen : List Nat → Nat → Ren2 → Ren2
 | [], _, L => L
 | k :: r, j, L => match fwd L k with
  | some _ => mkRen r j L
  | none => mkRen r (j + 1) (L ++ [(k, j)])
def onlyRet : Outs → Bool
 | [] => true
 | (none, _, _) :: r => onlyRet r
 | _ => false
theorem onlyRet_ok : ∀ {o : Outs} {i : Nat}, onlyRet o = true → getO (some i) o = none
 | [], _, _ => rfl
 | (none, _, _) :: r, i, h => onlyRet_ok (o := r) h
 | (some _, _, _) :: _, _, h => by cases h
def endS (W : List Nat) (s0 : St) (r : Res) : Option St := bif onlyRet r.outs then (match getO none r.outs, r.nrm with
 | some (_, s), none => some s
 | none, some s => some s
 | some (c, s), some s' => some (mergeS (cval c) W s0 s s')
 | none, none => none) else none
def fin2 (k : Nat) (s0 s : St) (x : A) (ps : List Prop) (L : Ren2) : Option CRes :=
 bif okRen s0.nx (s0.nx + L.length) L then some (k, x.pk (rho2 s0.nx L), s0.nx + L.length, pkObjs s0.nx L s.o s0.o, ps) else none
def finR (E : Env) (fn : Func) (k : Nat) (W : List Nat) (s0 : St) (r : Res) : Option CRes := match endS W s0 r with
 | some s => match resL E s fn.results.toList with
  | some (l, ps) => fin2 k s0 s (tupA l) (r.ps ++ ps) (mkRen (refsA s0.nx s.o 6 (tupA l) ++ refsO s0.nx s.o (newK s.o s0.o.length)) s0.nx [])
  | none => none
 | none => none
def slotsOf : Nat → List A → Slots
 | _, [] => []
 | k, x :: r => (k, x) :: slotsOf (k + 1) r
def initS (n : Nat) (args : List A) (nx : Nat) (o : Objs) : St := ⟨n, nx, slotsOf 0 args, o⟩
def isNil0 : Objs → Bool
 | [] => true
 | _ => false
def evF (E : Env) (u : Nat) (f : FuncId) (args : List A) (nx : Nat) (o : Objs) : Option CRes := match E.P.funcs[f]? with
 | some fn => match fn.body with
  | some c => bif Nat.ble args.length fn.ntmps then finR E fn (bif isNil0 o then 1 else 2) (wrC c) (initS fn.ntmps args nx o) (evC E u c (initS fn.ntmps args nx o)) else none
  | none => none
 | none => none
theorem look_slots {u : Nat} {x : A} : ∀ {l : List A} {k : Nat}, look u (slotsOf k l) = some x → ∃ i, u = k + i ∧ l[i]? = some x
 | [], _, h => by cases h
 | y :: r, k, h => by
  have h' : (bif Nat.beq k u then some y else look u (slotsOf (k + 1) r)) = some x := h
  cases hb : Nat.beq k u with
  | true =>
   rw [hb] at h'
   exact ⟨0, (Nat.eq_of_beq_eq_true hb).symm, h'⟩
  | false =>
   rw [hb] at h'
   obtain ⟨i, h1, h2⟩ := look_slots h'
   exact ⟨i + 1, by omega, h2⟩
theorem init_rel {n nx : Nat} {args : List A} {o : Objs} {vs : List Value} {F : Nat → Prop} {N : Nm} {R : World} (hl : args.length ≤ n) (hh : HRel F N nx o R) (ha : HL F N nx R args vs) :
  Rel ⟨F, N, nx, o, R, tmOf { tmps := vs.toArray ++ Array.replicate (n - vs.toArray.size) undef, defers := [] }, fun _ => True⟩ F N (initS n args nx o) { tmps := vs.toArray ++ Array.replicate (n - vs.toArray.size) undef, defers := [] } R := by
 have hlen := ha.length
 refine ⟨rfl, ?_, fun u x hu => ?_, hh, .refl, fun _ _ => rfl⟩
 ·show (vs.toArray ++ Array.replicate (n - vs.toArray.size) undef).size = n
  simp
  omega
 ·obtain ⟨i, h1, h2⟩ := look_slots hu
  obtain rfl : u = i := by omega
  obtain ⟨v, h3, h4⟩ := ha.get h2
  have hu' : u < vs.length := (List.getElem?_eq_some_iff.1 h3).1
  have : tmOf { tmps := vs.toArray ++ Array.replicate (n - vs.toArray.size) undef, defers := [] } u = v := by
   unfold tmOf
   simp only [Array.getD_eq_getD_getElem?]
   rw [Array.getElem?_append_left (by simpa using hu'), List.getElem?_toArray, h3]
   rfl
  rw [this]
  exact (HS_plain h4.isPlain).2 h4
section
variable {E : Env}
theorem endS_ok {Z : Base} {F : Nat → Prop} {N : Nm} {a0 : Act} {R0 : World} {W : List Nat} {s0 : St} (h0 : Rel Z F N s0 a0 R0) {r : Res} (hw : Wf s0 r) {s : St} (he : endS W s0 r = some s) {e : Exit} {x : St} {a : Act} {R : World} (ho : Oc r e x) (hx : At (midB F N s0 a0 R0 W) a R x) :
  (e = .ret ∨ e = .normal) ∧ At (midB F N s0 a0 R0 W) a R s ∧ Sub s0 s := by
 unfold endS at he
 cases hr : onlyRet r.outs with
 | false => rw [hr] at he; cases he
 | true =>
  rw [hr] at he
  simp only [cond_true] at he
  split at he <;> first | (cases he; done) | skip
  ·rename_i c s' hg hn
   cases he
   rcases ho with ⟨t, c', rfl, h1, h2, h3⟩ | ⟨rfl, h1, h2⟩
   ·cases t with
    | none => rw [hg] at h1; cases h1; exact ⟨.inl rfl, hx, hw.outs _ _ _ hg⟩
    | some i => rw [onlyRet_ok hr] at h1; cases h1
   ·rw [hn] at h1; cases h1
  ·rename_i hg hn
   cases he
   rcases ho with ⟨t, c', rfl, h1, h2, h3⟩ | ⟨rfl, h1, h2⟩
   ·cases t with
    | none => rw [hg] at h1; cases h1
    | some i => rw [onlyRet_ok hr] at h1; cases h1
   ·rw [hn] at h1; cases h1; exact ⟨.inr rfl, hx, hw.nrm _ hn⟩
  ·rename_i c s1 s2 hg hn
   cases he
   rcases ho with ⟨t, c', rfl, h1, h2, h3⟩ | ⟨rfl, h1, h2⟩
   ·cases t with
    | none =>
     rw [hg] at h1; cases h1
     exact ⟨.inl rfl, lift_m (g := cval c) h0 (hw.outs _ _ _ hg) (hw.nrm _ hn) (by rw [h2]; rfl) _ _ hx, Sub.merge _ _ _ _ _⟩
    | some i => rw [onlyRet_ok hr] at h1; cases h1
   ·rw [hn] at h1
    cases h1
    exact ⟨.inr rfl, lift_m (g := cval c) h0 (hw.outs _ _ _ hg) (hw.nrm _ hn) (by rw [h2 _ _ _ hg]; rfl) _ _ hx, Sub.merge _ _ _ _ _⟩
theorem evF_ok (ok : CodeOk E) {u : Nat} {f : FuncId} {args : List A} {nx : Nat} {o : Objs} {k nx' : Nat} {x : A} {o' : Objs} {ps : List Prop} (he : evF E u f args nx o = some (k, x, nx', o', ps)) (hp : ∀ p ∈ ps, p) :
  CallOk E.P f args nx o k x nx' o' := by
 unfold evF at he
 split at he <;> first | (cases he; done) | skip
 rename_i fn hf
 split at he <;> first | (cases he; done) | skip
 rename_i c hc
 cases hl : Nat.ble args.length fn.ntmps with
 | false => rw [hl] at he; cases he
 | true =>
  rw [hl] at he
  simp only [cond_true] at he
  have hle := Nat.le_of_ble_eq_true hl
  generalize hk0 : (bif isNil0 o then 1 else 2) = k0 at he
  generalize hr : evC E u c (initS fn.ntmps args nx o) = r at he
  unfold finR at he
  split at he <;> first | (cases he; done) | skip
  rename_i s hs
  split at he <;> first | (cases he; done) | skip
  rename_i l qs hres
  generalize mkRen (refsA (initS fn.ntmps args nx o).nx s.o 6 (tupA l) ++ refsO (initS fn.ntmps args nx o).nx s.o (newK s.o (initS fn.ntmps args nx o).o.length)) (initS fn.ntmps args nx o).nx [] = L at he
  unfold fin2 at he
  cases hok : okRen (initS fn.ntmps args nx o).nx ((initS fn.ntmps args nx o).nx + L.length) L with
  | false => rw [hok] at he; cases he
  | true =>
   rw [hok] at he
   cases he
   intro F N R vs hh ha
   ·have h0 := init_rel hle hh ha
    have hlen := ha.length
    refine calls_of_wp hf hc ?_
    have hwf := wf_code ok (u := u) 0 c false (initS fn.ntmps args nx o)
    have hr' : evH E u 0 c false (initS fn.ntmps args nx o) = r := hr
    rw [hr'] at hwf
    have key := code_ok ok (u := u) 0 c false (midB F N (initS fn.ntmps args nx o) { tmps := vs.toArray ++ Array.replicate (fn.ntmps - vs.toArray.size) undef, defers := [] } R (wrC c)) (initS fn.ntmps args nx o) { tmps := vs.toArray ++ Array.replicate (fn.ntmps - vs.toArray.size) undef, defers := [] } R
     (bodyPost E.P fn fun e R' => ∃ y F' N', e = .returned y ∧ HRel F' N' (nx + L.length) (pkObjs nx L s.o o) R' ∧ Step F N nx o R F' N' (nx + L.length) (pkObjs nx L s.o o) R' ∧ Hv F' N' (nx + L.length) R' ((tupA l).pk (rho2 nx L)) y ∧ (k ≤ 1 → Below R.heap.size R R')) ⟨F, N, h0.start _⟩ (fun u hu => hu) (by rw [hr']; exact fun p hm => hp p (List.mem_append.2 (.inl hm)))
    refine key fun e z a' R' ho hz => ?_
    rw [hr'] at ho
    obtain ⟨h1, ⟨F', N', h2⟩, h3⟩ := endS_ok h0 hwf hs ho hz
    obtain ⟨y, g1, g2⟩ := results_ok h2 hres fun p hm => hp p (List.mem_append.2 (.inr hm))
    obtain ⟨d, hd⟩ := h3.seq
    have hd' : s.o = d ++ o := hd
    obtain ⟨q1, q2⟩ := pkObjs_ok (nb := nx) (nx' := nx + L.length) (L := L) h2.hp hok (Nat.le_add_right _ _) hd' hh
    have hst : Step F N nx o R F' N' s.nx s.o R' := h2.st
    have small : ∀ k, k < nx → inv2 nx L k = k := fun k hk => by unfold inv2; rw [show Nat.blt k nx = true from Nat.ble_eq_true_of_le hk]; rfl
    have hst2 : Step F N nx o R F' (nm2 N' nx L) (nx + L.length) (pkObjs nx L s.o o) R' := ⟨Nat.le_add_right _ _, fun i hi => by show N'.b (inv2 nx L i) = _; rw [small i hi]; exact hst.b i hi, fun i hi => by show N'.q (inv2 nx L i) = _; rw [small i hi]; exact hst.q i hi, hst.f, hst.fnew, fun g hg => hst.foot g (q2 g hg), hst.os, hst.tape, hst.output, hst.size, hst.keep⟩
    have post : a'.defers = [] ∧ ∃ v, (results fn a'.tmps).run E.P R' = .ok v R' ∧ ∃ y F' N', Ending.returned v = .returned y ∧ HRel F' N' (nx + L.length) (pkObjs nx L s.o o) R' ∧ Step F N nx o R F' N' (nx + L.length) (pkObjs nx L s.o o) R' ∧ Hv F' N' (nx + L.length) R' ((tupA l).pk (rho2 nx L)) y ∧ (k ≤ 1 → Below R.heap.size R R') := by
     refine ⟨h2.defers, y, g2, y, F', nm2 N' nx L, rfl, q1, hst2, g1.pk (pk2 hok (Nat.le_add_right _ _)), fun hk => ?_⟩
     cases o with
     | nil => exact hst.below
     | cons p r => rw [← hk0] at hk; cases hk with | step hk => cases hk
    rcases h1 with rfl | rfl
    ·exact post
    ·exact post
theorem evF_suf {u : Nat} {f : FuncId} {args : List A} {nx : Nat} {o : Objs} {k nx' : Nat} {x : A} {o' : Objs} {ps : List Prop} (he : evF E u f args nx o = some (k, x, nx', o', ps)) : ∃ d, o' = d ++ o := by
 unfold evF at he
 split at he <;> first | (cases he; done) | skip
 split at he <;> first | (cases he; done) | skip
 rename_i c hc
 replace he := bif_some he
 unfold finR at he
 split at he <;> first | (cases he; done) | skip
 rename_i s hs
 split at he <;> first | (cases he; done) | skip
 unfold fin2 at he
 replace he := bif_some he
 cases he
 exact ⟨_, by unfold pkObjs; rw [← List.append_assoc]; rfl⟩
end
def TOk (P : Program) (f : FuncId) (g : List A → Nat → Objs → Option CRes) : Prop :=
 ∀ args nx o k x nx' o' ps, g args nx o = some (k, x, nx', o', ps) → ((∀ p ∈ ps, p) → CallOk P f args nx o k x nx' o') ∧ ∃ d, o' = d ++ o
def COk (P : Program) (C : Tab) : Prop := ∀ f args nx o k x nx' o' ps, C f args nx o = some (k, x, nx', o', ps) → ((∀ p ∈ ps, p) → CallOk P f args nx o k x nx' o') ∧ ∃ d, o' = d ++ o
def EqOk (P : Program) (eq : TypeId → List Value → List Value → Option Bool) : Prop :=
 ∀ t xs ys b, eq t xs ys = some b → P.eqGuardType P.depth t = false ∧ ∀ R, (Op.equalIn 10000 t (.agg xs.toArray) (.agg ys.toArray)).run P R = .ok b R
def TcOk (P : Program) (tc : TypeId → Option TC) : Prop :=
 ∀ t c, tc t = some c → ∃ i, P.info? t = some i ∧ i.size = size c ∧ 0 < size c ∧ ∃ z, i.zero = some z ∧ ∀ (F : Nat → Prop) (N : Nm) (nx : Nat) (R : World), HL F N nx R (enc c (dflt c)) z.cells.toList
abbrev LTab := Nat → St → Option (Code × List Prop × Outs)
def C0 : Tab := fun _ _ _ _ => none
theorem C0_ok {P : Program} : COk P C0 := fun _ _ _ _ _ _ _ _ _ h => by cases h
def L0 : LTab := fun _ _ => none
def addC (f0 : FuncId) (g : List A → Nat → Objs → Option CRes) (C : Tab) : Tab := fun f args nx o => bif Nat.beq f f0 then g args nx o else C f args nx o
theorem addC_ok {P : Program} {f0 : FuncId} {g : List A → Nat → Objs → Option CRes} {C : Tab} (hg : TOk P f0 g) (hC : COk P C) : COk P (addC f0 g C) := fun f args nx o k x nx' o' ps h => by
 unfold addC at h
 cases hb : Nat.beq f f0 with
 | true =>
  rw [hb] at h
  rw [Nat.eq_of_beq_eq_true hb]
  exact hg args nx o k x nx' o' ps h
 | false => rw [hb] at h; exact hC f args nx o k x nx' o' ps h
def orT (g g' : List A → Nat → Objs → Option CRes) : List A → Nat → Objs → Option CRes := fun args nx o => match g args nx o with
 | some x => some x
 | none => g' args nx o
theorem orT_ok {P : Program} {f : FuncId} {g g' : List A → Nat → Objs → Option CRes} (h : TOk P f g) (h' : TOk P f g') : TOk P f (orT g g') := fun args nx o k x nx' o' ps he => by
 unfold orT at he
 split at he
 ·rename_i x hx
  cases he
  exact h args nx o k _ nx' o' ps hx
 ·exact h' args nx o k x nx' o' ps he
theorem N0 {p : Prop} {ps : List Prop} (h : ∀ q ∈ p :: ps, q) : p := h _ (List.mem_cons_self ..)
theorem N1 {p : Prop} {ps : List Prop} (h : ∀ q ∈ p :: ps, q) : ∀ q ∈ ps, q := fun q hq => h q (List.mem_cons_of_mem _ hq)
theorem needs_nil : ∀ p ∈ ([] : List Prop), p := fun _ h => by cases h
theorem needs_cons {p : Prop} {ps : List Prop} (h : p) (t : ∀ q ∈ ps, q) : ∀ q ∈ p :: ps, q := fun q hq => by
 rcases List.mem_cons.1 hq with rfl | hq
 ·exact h
 ·exact t q hq
theorem callOk_frame {P : Program} {f : FuncId} {args : List A} {nx k nx' : Nat} {x : A} {o o' : Objs} (h : CallOk P f args nx [] k x nx' o') (hk : k ≤ 1) : CallOk P f args nx o 1 x nx' (o' ++ o) := fun F N R vs hh ha => by
 refine (h F N R vs (hh.noObj) ha).mono fun e R' ⟨y, F', N', e1, e2, e3, e4, e5⟩ => ?_
 obtain ⟨g1, g2⟩ := hh.frame (o1 := []) (o' := o' ++ o) (fun i ob hi => by cases hi) e3 e2 fun i ob hi => by
  rcases lookO_split hi with ⟨_, h1⟩ | ⟨_, h1⟩
  ·exact .inl h1
  ·exact .inr ⟨h1, rfl⟩
 exact ⟨y, F', N', e1, g1, g2, e4, fun _ => e5 hk⟩
def shiftR (nx : Nat) : Nat → Option Nat := fun i => some (nx + i)
def shiftO (nx : Nat) : Objs → Objs
 | [] => []
 | (k, some ob) :: r => (nx + k, some (ob.pk (shiftR nx))) :: shiftO nx r
 | (k, none) :: r => (nx + k, none) :: shiftO nx r
theorem lookO_shift {nx j : Nat} {ob' : Ob} : ∀ {o : Objs}, lookO j (shiftO nx o) = some ob' → ∃ i ob, j = nx + i ∧ lookO i o = some ob ∧ ob' = ob.pk (shiftR nx)
 | [], h => by cases h
 | (k, x) :: r, h => by
  have step : ∀ z, (bif Nat.beq (nx + k) j then z else lookO j (shiftO nx r)) = some ob' → (∀ ob, x = some ob → z = some (ob.pk (shiftR nx))) → (x = none → z = none) → ∃ i ob, j = nx + i ∧ (bif Nat.beq k i then x else lookO i r) = some ob ∧ ob' = ob.pk (shiftR nx) := fun z hz h1 h2 => by
   cases hb : Nat.beq (nx + k) j with
   | true =>
    rw [hb] at hz
    obtain rfl := Nat.eq_of_beq_eq_true hb
    cases x with
    | none => rw [h2 rfl] at hz; cases hz
    | some ob =>
     rw [h1 ob rfl] at hz
     cases hz
     exact ⟨k, ob, rfl, by rw [beq_self]; rfl, rfl⟩
   | false =>
    rw [hb] at hz
    obtain ⟨i, ob, rfl, h3, h4⟩ := lookO_shift hz
    refine ⟨i, ob, rfl, ?_, h4⟩
    rw [beq_ne fun e => by subst e; simp at hb]
    exact h3
  cases x with
  | some ob => exact step _ h (fun ob' e => by cases e; rfl) (fun e => by cases e)
  | none => exact step _ h (fun ob' e => by cases e) (fun _ => rfl)
theorem callOk_shift {P : Program} {f : FuncId} {args : List A} {k m : Nat} {x : A} {os : Objs} (h : CallOk P f args 0 [] k x m os) (hk : k ≤ 1) (hf : freeL args = true) (nx : Nat) (o : Objs) : CallOk P f args nx o 1 (x.pk (shiftR nx)) (nx + m) (shiftO nx os ++ o) := by
 refine callOk_frame (k := 1) (fun F N R vs hh ha => ?_) (Nat.le_refl _)
 refine (h F N R vs hh.noObj (ha.free hf)).mono fun e R' ⟨y, F', N', e1, e2, e3, e4, e5⟩ => ?_
 let N2 : Nm := ⟨fun i => bif Nat.blt i nx then N.b i else N'.b (i - nx), fun i => bif Nat.blt i nx then N.q i else N'.q (i - nx)⟩
 have hbt : ∀ i, Nat.blt (nx + i) nx = false := fun i => by
  cases hb : Nat.blt (nx + i) nx with
  | false => rfl
  | true => exact absurd (Nat.le_of_ble_eq_true hb) (by omega)
 have st : Pk (shiftR nx) N' m N2 (nx + m) := fun i j hi hj => by
  cases hj
  refine ⟨by omega, ?_, ?_⟩
  ·show (bif Nat.blt (nx + i) nx then N.b (nx + i) else N'.b (nx + i - nx)) = _
   rw [hbt, Nat.add_sub_cancel_left]; rfl
  ·show (bif Nat.blt (nx + i) nx then N.q (nx + i) else N'.q (nx + i - nx)) = _
   rw [hbt, Nat.add_sub_cancel_left]; rfl
 obtain ⟨g1, g2⟩ := e2.pk (o' := shiftO nx os) st fun j ob' hj => by
  obtain ⟨i, ob, rfl, h3, h4⟩ := lookO_shift hj
  exact ⟨i, ob, rfl, h3, h4⟩
 have hlt : ∀ i, i < nx → Nat.blt i nx = true := fun i hi => Nat.ble_eq_true_of_le hi
 refine ⟨y, F', N2, e1, g1, ⟨Nat.le_add_right _ _, fun i hi => by show (bif Nat.blt i nx then N.b i else _) = _; rw [hlt i hi]; rfl, fun i hi => by show (bif Nat.blt i nx then N.q i else _) = _; rw [hlt i hi]; rfl, e3.f, fun g hg => ?_, fun g hg => ?_, e3.os, e3.tape, e3.output, e3.size, fun g hg hn => e3.keep g hg fun ⟨i, ob, hi, _⟩ => by cases hi⟩, e4.pk st, fun _ => e5 hk⟩
 ·rcases e3.fnew g hg with h1 | ⟨i, ob, hi, _⟩ | h1
  ·exact .inl h1
  ·cases hi
  ·exact .inr (.inr h1)
 ·rcases e3.foot g (g2 g hg) with ⟨i, ob, hi, _⟩ | h1
  ·cases hi
  ·exact .inr h1
def inl (E : Env) (u : Nat) (f : FuncId) : List A → Nat → Objs → Option CRes := fun args nx o =>
 bif freeL args then (match evF E u f args nx [] with
  | some (k, x, nx', o', ps) => bif Nat.ble k 1 then some (1, x, nx', o' ++ o, ps) else none
  | none => none) else evF E u f args nx o
theorem inl_ok {E : Env} (ok : CodeOk E) (u : Nat) (f : FuncId) : TOk E.P f (inl E u f) := fun args nx o k x nx' o' ps h => by
 unfold inl at h
 cases hf : freeL args with
 | true =>
  rw [hf] at h
  simp only [cond_true] at h
  split at h <;> first | (cases h; done) | skip
  rename_i k1 x1 nx1 o1 ps1 he
  cases hk : Nat.ble k1 1 with
  | false => rw [hk] at h; cases h
  | true =>
   rw [hk] at h
   cases h
   exact ⟨fun hp => callOk_frame (evF_ok ok he hp) (Nat.le_of_ble_eq_true hk), _, rfl⟩
 | false =>
  rw [hf] at h
  exact ⟨fun hp => evF_ok ok h hp, evF_suf h⟩
end Go.Proofs.Ytnfmceffbnaanaa
namespace Go.Proofs.Ytnfmceffbnaanaa
open Go.RowKit
inductive Dir where
 | frz (i : Nat)
 | nil (u : Nat) (t : TypeId) (c : TC)
 | nilB (b j : Nat) (t : TypeId) (c : TC)
 | ty (i : Nat) (c : TC)
 | nilF (u : Nat) (c : TC)
 | nilFB (b j : Nat) (c : TC)
 | nilD (u : Nat) (t : TypeId) (c : TC)
 | seg (i : Nat) (p : List (Option (TC × Nat)))
 | avd (u : Nat) (c : TC) (n : Nat)
 | nilR (b j : Nat) (t : TypeId) (c : TC)
def decL (c : TC) : List A → Option (List (U c) × List Prop)
 | [] => some ([], [])
 | x :: r => match dec c [x], decL c r with
  | some (d, ps), some (l, qs) => some (d :: l, ps ++ qs)
  | _, _ => none
theorem decL_ok {F : Nat → Prop} {N : Nm} {nx : Nat} {R : World} {c : TC} (h1 : c.one = true) : ∀ {cs : List A} {vs : List Value} {l : List (U c)} {ps : List Prop}, HL F N nx R cs vs → decL c cs = some (l, ps) → (∀ p ∈ ps, p) → l.length = cs.length ∧ vs = l.map (sv c)
 | [], vs, l, ps, h, he, _ => by
  cases he
  exact ⟨rfl, h.inv0⟩
 | x :: r, vs, l, ps, h, he, hp => by
  obtain ⟨y, ys, rfl, g1, g2⟩ := h.inv
  unfold decL at he
  split at he <;> first | (cases he; done) | skip
  rename_i d qs l' qs' hd hl
  cases he
  obtain ⟨k1, k2⟩ := decL_ok h1 g2 hl fun p hm => hp p (List.mem_append.2 (.inr hm))
  have h5 := dec_ok hd (fun p hm => hp p (List.mem_append.2 (.inl hm))) _ (HL.cons g1 HL.nil)
  rw [enc_sv h1] at h5
  obtain ⟨v', vs', w1, w2, _⟩ := h5.inv
  cases w1
  refine ⟨by rw [List.length_cons, List.length_cons, k1], ?_⟩
  rw [List.map_cons, ← w2.v_inv, k2]
def segL : List (Option (TC × Nat)) → List A → Option (List A × List Prop)
 | [], [] => some ([], [])
 | none :: p, .v x :: r => bif x.oneCell' then (match segL p r with
  | some (l, ps) => some (.v x :: l, ps)
  | none => none) else none
 | none :: p, .sl c l :: r => match segL p r with
  | some (xs, ps) => some (.sl c l :: xs, ps)
  | none => none
 | none :: p, .nl :: r => match segL p r with
  | some (xs, ps) => some (.nl :: xs, ps)
  | none => none
 | some (c, n) :: p, cs => bif c.one && Nat.ble n cs.length then (bif Nat.blt 64 n && zeroL c (cs.take n) then (match segL p (cs.drop n) with
  | some (r, qs) => some (.av c n (List.replicate n (dflt c)) :: r, qs)
  | none => none) else (match decL c (cs.take n), segL p (cs.drop n) with
  | some (l, ps), some (r, qs) => some (.av c n l :: r, ps ++ qs)
  | _, _ => none)) else none
 | _, _ => none
theorem segL_ok {F : Nat → Prop} {N : Nm} {nx : Nat} {R : World} : ∀ {p : List (Option (TC × Nat))} {cs : List A} {vs : List Value} {xs : List A} {ps : List Prop}, HL F N nx R cs vs → segL p cs = some (xs, ps) → (∀ p ∈ ps, p) → HW F N nx R xs vs
 | [], cs, vs, xs, ps, h, he, _ => by
  cases cs with
  | nil => cases he; exact h.inv0
  | cons x r => cases he
 | none :: p, cs, vs, xs, ps, h, he, hp => by
  cases cs with
  | nil => cases he
  | cons x r =>
   obtain ⟨y, ys, rfl, g1, g2⟩ := h.inv
   cases x <;> first | (cases he; done) | skip
   ·rename_i x
    unfold segL at he
    cases ho : x.oneCell' with
    | false => rw [ho] at he; cases he
    | true =>
     rw [ho, cond_true] at he
     split at he <;> first | (cases he; done) | skip
     rename_i l qs hl
     cases he
     have e := g1.v_inv
     subst e
     exact ⟨y, ys, by rw [one_cells ho]; rfl, g1, fun _ => ho, segL_ok g2 hl hp⟩
   ·unfold segL at he
    split at he <;> first | (cases he; done) | skip
    rename_i l qs hl
    cases he
    obtain ⟨a, cap, e, _⟩ := g1.sl_inv
    have ho : y.oneCell' = true := by rw [e]; rfl
    exact ⟨y, ys, by rw [one_cells ho]; rfl, g1, fun _ => ho, segL_ok g2 hl hp⟩
   ·unfold segL at he
    split at he <;> first | (cases he; done) | skip
    rename_i l qs hl
    cases he
    obtain ⟨a, e⟩ := g1.nl_inv
    have ho : y.oneCell' = true := by rw [e]; rfl
    exact ⟨y, ys, by rw [one_cells ho]; rfl, g1, fun _ => ho, segL_ok g2 hl hp⟩
 | some (c, n) :: p, cs, vs, xs, ps, h, he, hp => by
  unfold segL at he
  cases hb : (c.one && Nat.ble n cs.length) with
  | false => rw [hb] at he; cases he
  | true =>
   rw [hb, cond_true] at he
   rw [Bool.and_eq_true] at hb
   have hn := Nat.le_of_ble_eq_true hb.2
   cases hz : (Nat.blt 64 n && zeroL c (cs.take n)) with
   | true =>
   rw [hz, cond_true] at he
   rw [Bool.and_eq_true] at hz
   replace hz := hz.2
   split at he <;> first | (cases he; done) | skip
   rename_i r qs hl
   cases he
   have q2 := zeroL_ok (h.take n) hz
   rw [List.length_take, Nat.min_eq_left hn] at q2
   exact ⟨.agg ((List.replicate n (dflt c)).map (sv c)).toArray, vs.drop n, by rw [show (Value.agg ((List.replicate n (dflt c)).map (sv c)).toArray).cells.toList = (List.replicate n (dflt c)).map (sv c) by simp [Value.cells], ← q2, List.take_append_drop], .av hb.1 (by rw [List.length_replicate]), fun e => (by cases e), segL_ok (h.drop n) hl hp⟩
   | false =>
   rw [hz, cond_false] at he
   split at he <;> first | (cases he; done) | skip
   rename_i l qs r qs' hd hl
   cases he
   obtain ⟨q1, q2⟩ := decL_ok hb.1 (h.take n) hd fun p hm => hp p (List.mem_append.2 (.inl hm))
   have q3 := segL_ok (h.drop n) hl fun p hm => hp p (List.mem_append.2 (.inr hm))
   rw [List.length_take, Nat.min_eq_left hn] at q1
   exact ⟨.agg (l.map (sv c)).toArray, vs.drop n, by rw [show (Value.agg (l.map (sv c)).toArray).cells.toList = l.map (sv c) by simp [Value.cells], ← q2, List.take_append_drop], .av hb.1 q1, fun e => (by cases e), q3⟩
def argA (c : TC) (n : Nat) : A → Option (List (U c) × List Prop)
 | .av c' n' l => match TC.same c' c with
  | some h => bif Nat.beq n' n then some (castL h.down l, []) else none
  | none => none
 | .v (.agg xs) => bif c.one then (match decL c (toL xs.toList) with
  | some (l, ps) => bif Nat.beq xs.size n then some (l, ps) else none
  | none => none) else none
 | .agg xs => bif c.one then (match decL c xs with
  | some (l, ps) => bif Nat.beq xs.length n then some (l, ps) else none
  | none => none) else none
 | _ => none
theorem argA_ok {F : Nat → Prop} {N : Nm} {nx : Nat} {R : World} {c : TC} {n : Nat} {x : A} {l : List (U c)} {ps : List Prop} {v : Value} (he : argA c n x = some (l, ps)) (hp : ∀ p ∈ ps, p) (h : Hv F N nx R x v) : Hv F N nx R (.av c n l) v := by
 unfold argA at he
 split at he <;> first | (cases he; done) | skip
 ·split at he <;> first | (cases he; done) | skip
  rename_i c' n' l' _ h1 _
  obtain ⟨h1⟩ := h1
  subst h1
  cases hb : Nat.beq n' n with
  | false => rw [hb] at he; cases he
  | true =>
   rw [hb] at he
   obtain rfl := Nat.eq_of_beq_eq_true hb
   cases he
   exact h
 ·rename_i xs
  cases h1 : c.one with
  | false => rw [h1] at he; cases he
  | true =>
   rw [h1, cond_true] at he
   split at he <;> first | (cases he; done) | skip
   rename_i l' ps' hd
   cases hb : Nat.beq xs.size n with
   | false => rw [hb] at he; cases he
   | true =>
    rw [hb] at he
    cases he
    obtain ⟨g1, g2⟩ := decL_ok h1 (HL.toL (F := F) (N := N) (nx := nx) (R := R) xs.toList) hd hp
    have hv := h.v_inv
    subst hv
    have e : (Value.agg xs) = .agg (l.map (sv c)).toArray := by rw [← g2]
    rw [e]
    refine .av h1 ?_
    rw [g1, ← Nat.eq_of_beq_eq_true hb, ← HL.length (HL.toL (F := F) (N := N) (nx := nx) (R := R) xs.toList)]
    simp
 ·rename_i xs
  cases h1 : c.one with
  | false => rw [h1] at he; cases he
  | true =>
   rw [h1, cond_true] at he
   split at he <;> first | (cases he; done) | skip
   rename_i l' ps' hd
   cases hb : Nat.beq xs.length n with
   | false => rw [hb] at he; cases he
   | true =>
    rw [hb] at he
    cases he
    obtain ⟨vs, rfl, h2⟩ := h.agg_inv
    obtain ⟨g1, g2⟩ := decL_ok h1 h2 hd hp
    rw [g2]
    exact .av h1 (g1.trans (Nat.eq_of_beq_eq_true hb))
def isNilA : A → Bool
 | .v x => isNilV x
 | .nl => true
 | _ => false
def isNilA1 : A → Bool
 | .v x => isNilV x
 | _ => false
def adj1 (E : Env) (s : St) : Dir → Option (St × List Prop)
 | .frz i => freezeS E i s
 | .nil u t c => match look u s.t with
  | some x => bif isNilA x then some (⟨s.n, s.nx + 1, (u, .sq s.nx) :: s.t, (s.nx, some (.arr t (size c) (.ty c []))) :: s.o⟩, []) else none
  | none => none
 | .nilB b j t c => match lookO b s.o with
  | some (.box e cs) => match cs[j]? with
   | some x => bif isNilA1 x then (bif Nat.blt b s.nx then some (⟨s.n, s.nx + 1, s.t, (b, some (.box e (cs.set j (.sq s.nx)))) :: (s.nx, some (.arr t (size c) (.ty c []))) :: s.o⟩, []) else none) else none
   | none => none
  | _ => none
 | .nilF u c => match look u s.t with
  | some x => bif isNilA x then some (⟨s.n, s.nx, (u, .sl c []) :: s.t, s.o⟩, []) else none
  | none => none
 | .nilFB b j c => match lookO b s.o with
  | some (.box e cs) => match cs[j]? with
   | some x => bif isNilA x then some (⟨s.n, s.nx, s.t, (b, some (.box e (cs.set j (.sl c [])))) :: s.o⟩, []) else none
   | none => none
  | _ => none
 | .ty i c => match lookO i s.o with
  | some (.arr e sz els) => match elsTy c els with
   | some (l, ps) => some (⟨s.n, s.nx, s.t, (i, some (.arr e sz (.ty c l))) :: s.o⟩, ps)
   | none => none
  | _ => none
 | .nilD u t c => match look u s.t, colOf c with
  | some x, some _ => bif isNilA1 x then some (⟨s.n, s.nx + 1, (u, .dq s.nx) :: s.t, (s.nx, some (.deep t c [])) :: s.o⟩, []) else none
  | _, _ => none
 | .seg i p => match lookO i s.o with
  | some (.box e cs) => match segL p cs with
   | some (xs, ps) => some (⟨s.n, s.nx, s.t, (i, some (.rcd e xs)) :: s.o⟩, ps)
   | none => none
  | _ => none
 | .avd u c n => match look u s.t with
  | some x => bif x.plain then (match argA c n x with
   | some (l, ps) => some (⟨s.n, s.nx, (u, .av c n l) :: s.t, s.o⟩, ps)
   | none => none) else none
  | none => none
 | .nilR b j t c => match lookO b s.o with
  | some (.rcd e xs) => match xs[j]? with
   | some x => bif isNilA1 x then (bif Nat.blt b s.nx then some (⟨s.n, s.nx + 1, s.t, (b, some (.rcd e (xs.set j (.sq s.nx)))) :: (s.nx, some (.arr t (size c) (.ty c []))) :: s.o⟩, []) else none) else none
   | none => none
  | _ => none
theorem HW.setItem {F : Nat → Prop} {N : Nm} {nx : Nat} {R : World} {y : A} (hy0 : isAv y = false) : ∀ {xs : List A} {us : List Value} {j : Nat} {x : A}, HW F N nx R xs us → xs[j]? = some x → isAv x = false → (∀ v, Hv F N nx R x v → Hv F N nx R y v) → HW F N nx R (xs.set j y) us
 | [], _, j, _, _, hx, _, _ => by cases j <;> cases hx
 | z :: r, us, 0, x, ⟨v, t, h1, h2, h3, h4⟩, hx, hx0, hy => by
  cases hx
  exact ⟨v, t, h1, hy v h2, fun _ => h3 hx0, h4⟩
 | z :: r, us, j + 1, x, ⟨v, t, h1, h2, h3, h4⟩, hx, hx0, hy => ⟨v, t, h1, h2, h3, HW.setItem hy0 (j := j) h4 hx hx0 hy⟩
def adj (E : Env) : List Dir → St → Option (St × List Prop)
 | [], s => some (s, [])
 | d :: r, s => match adj1 E s d with
  | some (s', ps) => match adj E r s' with
   | some (s'', qs) => some (s'', ps ++ qs)
   | none => none
  | none => none
section
variable {E : Env} {Z : Base} {F : Nat → Prop} {N : Nm} {s : St} {a : Act} {R : World}
theorem Rel.word (h : Rel Z F N s a R) {u : Nat} {x : A} (hx : Hv F N s.nx R x (tmOf a u)) : Rel Z F N ⟨s.n, s.nx, (u, x) :: s.t, s.o⟩ a R :=
 ⟨h.defers, h.size, fun v z hv => by
  have hv' : (bif Nat.beq u v then some x else look v s.t) = some z := hv
  cases hb : Nat.beq u v with
  | true =>
   rw [hb] at hv'
   obtain rfl := Nat.eq_of_beq_eq_true hb
   cases hv'
   exact (HS_plain hx.isPlain).2 hx
  | false => rw [hb] at hv'; exact h.slots v z hv', h.hp, h.st, h.tm⟩
theorem isNilA_plain {x : A} (h : isNilA x = true) : x.plain = true := by cases x <;> first | rfl | cases h
theorem isNilA_ok {x : A} {y : Value} {nx : Nat} (h : isNilA x = true) (hx : Hv F N nx R x y) : ∃ b, y = .slice b 0 0 := by
 cases x <;> first | (cases h; done) | skip
 ·rw [hx.v_inv, isNilV_ok h]; exact ⟨none, rfl⟩
 ·exact hx.nl_inv
theorem isNilA1_ok {x : A} {y : Value} {nx : Nat} (h : isNilA1 x = true) (hx : Hv F N nx R x y) : y = .slice none 0 0 := by
 cases x <;> first | (cases h; done) | skip
 rw [hx.v_inv, isNilV_ok h]
theorem isNilA1_plain {x : A} (h : isNilA1 x = true) : x.plain = true := by cases x <;> first | rfl | cases h
theorem HL.set {nx : Nat} {xs : List A} {vs : List Value} {j : Nat} {y : A} (h : HL F N nx R xs vs) (hy : ∀ v, vs[j]? = some v → Hv F N nx R y v) : HL F N nx R (xs.set j y) vs := by
 refine HL.of (by rw [List.length_set]; exact h.length) fun i x v hx hv => ?_
 by_cases hij : j = i
 ·subst hij
  have hlt : j < xs.length := by have := (List.getElem?_eq_some_iff.1 hx).1; rwa [List.length_set] at this
  rw [List.getElem?_set_self hlt] at hx
  cases hx
  exact hy v hv
 ·rw [List.getElem?_set_ne hij] at hx
  obtain ⟨w, h1, h2⟩ := h.get hx
  rw [hv] at h1
  cases h1
  exact h2
theorem HRel.nilRowB {nx : Nat} {o : Objs} (h : HRel F N nx o R) (b : Option Addr) {m : Nat} (t : TypeId) (sz : Nat) {els : Els} (he : els.n = 0) (hm : nx ≤ m) :
  HRel F (N.setQ m (.slice b 0 0)) (m + 1) ((m, some (.arr t sz els)) :: o) R ∧ Step F N nx o R F (N.setQ m (.slice b 0 0)) (m + 1) ((m, some (.arr t sz els)) :: o) R :=
 h.nilG _ hm (fun hqm => ⟨[], by rw [hqm]; exact ⟨by rw [he]; simp, .inl ⟨b, rfl, he⟩⟩, fun j hj => absurd hj (by omega)⟩) fun hqm g hg => by
  have hg' : blkOf ((N.setQ m (.slice b 0 0)).q m) = some g := hg
  rw [hqm] at hg'
  cases b <;> cases hg'
theorem adj1_ok (h : At Z a R s) {d : Dir} {s' : St} {ps : List Prop} (he : adj1 E s d = some (s', ps)) (hp : ∀ p ∈ ps, p) : At Z a R s' := by
 obtain ⟨F, N, h⟩ := h
 cases d with
 | frz i =>
  obtain ⟨F', h'⟩ := freeze_ok h he hp
  exact ⟨F', N, h'⟩
 | nil u t c =>
  unfold adj1 at he
  simp only at he
  split at he <;> first | (cases he; done) | skip
  rename_i x hx
  cases hn : isNilA x with
  | false => rw [hn] at he; cases he
  | true =>
   rw [hn] at he
   cases he
   obtain ⟨b, hv⟩ := isNilA_ok hn ((HS_plain (isNilA_plain hn)).1 (h.slots u x hx))
   obtain ⟨q1, q2⟩ := h.hp.nilRowB b t (size c) (els := .ty c []) rfl (Nat.le_refl _)
   have h2 := h.heap q2 q1
   refine ⟨_, _, h2.word (u := u) ?_⟩
   rw [hv]
   have := Hv.sq (F := F) (N := N.setQ s.nx (.slice b 0 0)) (nx := s.nx + 1) (R := R) (Nat.lt_succ_self s.nx)
   have e : (N.setQ s.nx (.slice b 0 0)).q s.nx = .slice b 0 0 := setF_same N.q s.nx _
   rw [e] at this
   exact this
 | nilD u t c =>
  unfold adj1 at he
  simp only at he
  split at he <;> first | (cases he; done) | skip
  rename_i x cc hx hc
  cases hn : isNilA1 x with
  | false => rw [hn] at he; cases he
  | true =>
   rw [hn] at he
   cases he
   have hv := isNilA1_ok hn ((HS_plain (isNilA1_plain hn)).1 (h.slots u x hx))
   obtain ⟨q1, q2⟩ := h.hp.nilD t hc (Nat.le_refl _)
   have h2 := h.heap q2 q1
   refine ⟨_, _, h2.word (u := u) ?_⟩
   rw [hv]
   have := Hv.dq (F := F) (N := N.setQ s.nx (nilQ true)) (nx := s.nx + 1) (R := R) (Nat.lt_succ_self s.nx)
   have e : (N.setQ s.nx (nilQ true)).q s.nx = nilQ true := setF_same N.q s.nx _
   rw [e] at this
   exact this
 | nilB b j t c =>
  unfold adj1 at he
  simp only at he
  split at he <;> first | (cases he; done) | skip
  rename_i e cs hl
  split at he <;> first | (cases he; done) | skip
  rename_i x hx
  cases hn : isNilA1 x with
  | false => rw [hn] at he; cases he
  | true =>
   rw [hn] at he
   cases hb : Nat.blt b s.nx with
   | false => rw [hb] at he; cases he
   | true =>
    rw [hb] at he
    cases he
    have hbn : b < s.nx := Nat.le_of_ble_eq_true hb
    obtain ⟨q1, q2⟩ := h.hp.nilRow t (size c) (els := .ty c []) rfl (Nat.le_refl _)
    have e0 : (N.setQ s.nx (.slice none 0 0)).q s.nx = .slice none 0 0 := setF_same N.q s.nx _
    obtain ⟨r1, r2⟩ := q1.less (o' := (b, some (.box e (cs.set j (.sq s.nx)))) :: (s.nx, some (.arr t (size c) (.ty c []))) :: s.o) fun i ob hi => by
     rw [lookO_cons] at hi
     by_cases hib : i = b
     ·rw [if_pos hib] at hi
      cases hi
      subst hib
      refine ⟨.box e cs, by rw [lookO_cons, if_neg (by omega)]; exact hl, fun ⟨vs, k1, k2⟩ => ⟨vs, k1.set fun v hv => ?_, k2⟩, fun g => Iff.rfl⟩
      obtain ⟨w, k3, k4⟩ := k1.get hx
      rw [hv] at k3
      cases k3
      rw [isNilA1_ok hn k4]
      have := Hv.sq (F := F) (N := N.setQ s.nx (.slice none 0 0)) (nx := s.nx + 1) (R := R) (Nat.lt_succ_self s.nx)
      rw [e0] at this
      exact this
     ·rw [if_neg hib] at hi
      exact ⟨ob, hi, id, fun g => Iff.rfl⟩
    exact ⟨_, _, h.heap (q2.trans r2) r1⟩
 | nilF u c =>
  unfold adj1 at he
  simp only at he
  split at he <;> first | (cases he; done) | skip
  rename_i x hx
  cases hn : isNilA x with
  | false => rw [hn] at he; cases he
  | true =>
   rw [hn] at he
   cases he
   obtain ⟨b, hv⟩ := isNilA_ok hn ((HS_plain (isNilA_plain hn)).1 (h.slots u x hx))
   exact ⟨_, _, h.word (u := u) (Hv.sl_nil hv)⟩
 | nilFB b j c =>
  unfold adj1 at he
  simp only at he
  split at he <;> first | (cases he; done) | skip
  rename_i e cs hl
  split at he <;> first | (cases he; done) | skip
  rename_i x hx
  cases hn : isNilA x with
  | false => rw [hn] at he; cases he
  | true =>
   rw [hn] at he
   cases he
   obtain ⟨r1, r2⟩ := h.hp.less (o' := (b, some (.box e (cs.set j (.sl c [])))) :: s.o) fun i ob hi => by
    rw [lookO_cons] at hi
    by_cases hib : i = b
    ·rw [if_pos hib] at hi
     cases hi
     subst hib
     refine ⟨.box e cs, hl, fun ⟨vs, k1, k2⟩ => ⟨vs, k1.set fun v hv => ?_, k2⟩, fun g => Iff.rfl⟩
     obtain ⟨w, k3, k4⟩ := k1.get hx
     rw [hv] at k3
     cases k3
     obtain ⟨b, hb⟩ := isNilA_ok hn k4
     exact Hv.sl_nil hb
    ·rw [if_neg hib] at hi
     exact ⟨ob, hi, id, fun g => Iff.rfl⟩
   exact ⟨_, _, h.heap r2 r1⟩
 | seg i p =>
  unfold adj1 at he
  simp only at he
  split at he <;> first | (cases he; done) | skip
  rename_i e cs hl
  split at he <;> first | (cases he; done) | skip
  rename_i xs qs hd
  cases he
  obtain ⟨r1, r2⟩ := h.hp.less (o' := (i, some (.rcd e xs)) :: s.o) fun k ob hi => by
   rw [lookO_cons] at hi
   by_cases hib : k = i
   ·rw [if_pos hib] at hi
    cases hi
    subst hib
    exact ⟨.box e cs, hl, fun ⟨vs, k1, k2⟩ => ⟨vs, segL_ok k1 hd hp, k2⟩, fun g => Iff.rfl⟩
   ·rw [if_neg hib] at hi
    exact ⟨ob, hi, id, fun g => Iff.rfl⟩
  exact ⟨_, _, h.heap r2 r1⟩
 | nilR b j t c =>
  unfold adj1 at he
  simp only at he
  split at he <;> first | (cases he; done) | skip
  rename_i e xs hl
  split at he <;> first | (cases he; done) | skip
  rename_i x hx
  cases hn : isNilA1 x with
  | false => rw [hn] at he; cases he
  | true =>
   rw [hn] at he
   cases hb : Nat.blt b s.nx with
   | false => rw [hb] at he; cases he
   | true =>
    rw [hb] at he
    cases he
    have hbn : b < s.nx := Nat.le_of_ble_eq_true hb
    obtain ⟨q1, q2⟩ := h.hp.nilRow t (size c) (els := .ty c []) rfl (Nat.le_refl _)
    have e0 : (N.setQ s.nx (.slice none 0 0)).q s.nx = .slice none 0 0 := setF_same N.q s.nx _
    have hx0 : isAv x = false := by cases x <;> first | rfl | cases hn
    obtain ⟨r1, r2⟩ := q1.less (o' := (b, some (.rcd e (xs.set j (.sq s.nx)))) :: (s.nx, some (.arr t (size c) (.ty c []))) :: s.o) fun i ob hi => by
     rw [lookO_cons] at hi
     by_cases hib : i = b
     ·rw [if_pos hib] at hi
      cases hi
      subst hib
      refine ⟨.rcd e xs, by rw [lookO_cons, if_neg (by omega)]; exact hl, fun ⟨us, k1, k2⟩ => ⟨us, k1.setItem rfl hx hx0 fun v hv => ?_, k2⟩, fun g => Iff.rfl⟩
      rw [isNilA1_ok hn hv]
      have := Hv.sq (F := F) (N := N.setQ s.nx (.slice none 0 0)) (nx := s.nx + 1) (R := R) (Nat.lt_succ_self s.nx)
      rw [e0] at this
      exact this
     ·rw [if_neg hib] at hi
      exact ⟨ob, hi, id, fun g => Iff.rfl⟩
    exact ⟨_, _, h.heap (q2.trans r2) r1⟩
 | avd u c n =>
  unfold adj1 at he
  simp only at he
  split at he <;> first | (cases he; done) | skip
  rename_i x hx
  cases hn : x.plain with
  | false => rw [hn] at he; cases he
  | true =>
   rw [hn, cond_true] at he
   split at he <;> first | (cases he; done) | skip
   rename_i l qs hd
   cases he
   exact ⟨_, _, h.word (u := u) (argA_ok hd hp ((HS_plain hn).1 (h.slots u x hx)))⟩
 | ty i c =>
  unfold adj1 at he
  simp only at he
  split at he <;> first | (cases he; done) | skip
  rename_i e sz els hl
  split at he <;> first | (cases he; done) | skip
  rename_i l qs hty
  cases he
  obtain ⟨r1, r2⟩ := h.hp.less (o' := (i, some (.arr e sz (.ty c l))) :: s.o) fun k ob hi => by
   rw [lookO_cons] at hi
   by_cases hib : k = i
   ·rw [if_pos hib] at hi
    cases hi
    subst hib
    refine ⟨.arr e sz els, hl, fun ⟨zs, k1, k2⟩ => ?_, fun g => Iff.rfl⟩
    obtain ⟨e1, _⟩ := elsTy_ok (F := F) (N := N) (nx := s.nx) (R := R) hty hp
    have hr := RowHL.ty (els := els) ⟨k1.1, k2⟩ hty hp
    have hn : (Els.ty c l).n = els.n := e1
    exact ⟨zs, by rw [hn]; exact k1, hr.2⟩
   ·rw [if_neg hib] at hi
    exact ⟨ob, hi, id, fun g => Iff.rfl⟩
  exact ⟨_, _, h.heap r2 r1⟩
theorem adj_ok : ∀ {D : List Dir} {s s' : St} {ps : List Prop}, At Z a R s → adj E D s = some (s', ps) → (∀ p ∈ ps, p) → At Z a R s'
 | [], s, s', ps, h, he, _ => by cases he; exact h
 | d :: r, s, s', ps, h, he, hp => by
  unfold adj at he
  split at he <;> first | (cases he; done) | skip
  rename_i s1 ps1 h1
  split at he <;> first | (cases he; done) | skip
  rename_i s2 ps2 h2
  cases he
  exact adj_ok (adj1_ok h h1 fun p hm => hp p (List.mem_append.2 (.inl hm))) h2 fun p hm => hp p (List.mem_append.2 (.inr hm))
theorem adj_sub : ∀ {D : List Dir} {s s' : St} {ps : List Prop}, adj E D s = some (s', ps) → Sub s s'
 | [], s, s', ps, he => by cases he; exact Sub.refl _
 | d :: r, s, s', ps, he => by
  unfold adj at he
  split at he <;> first | (cases he; done) | skip
  rename_i s1 ps1 h1
  split at he <;> first | (cases he; done) | skip
  rename_i s2 ps2 h2
  cases he
  refine Sub.trans ?_ (adj_sub h2)
  cases d with
  | frz i => exact ⟨(freeze_sub h1).1, (freeze_sub h1).2⟩
  | nil u t c =>
   unfold adj1 at h1
   simp only at h1
   split at h1 <;> first | (cases h1; done) | skip
   replace h1 := bif_some h1
   cases h1
   exact ⟨rfl, [_], rfl⟩
  | nilD u t c =>
   unfold adj1 at h1
   simp only at h1
   split at h1 <;> first | (cases h1; done) | skip
   replace h1 := bif_some h1
   cases h1
   exact ⟨rfl, [_], rfl⟩
  | nilB b j t c =>
   unfold adj1 at h1
   simp only at h1
   split at h1 <;> first | (cases h1; done) | skip
   split at h1 <;> first | (cases h1; done) | skip
   replace h1 := bif_some (bif_some h1)
   cases h1
   exact ⟨rfl, [_, _], rfl⟩
  | nilF u c =>
   unfold adj1 at h1
   simp only at h1
   split at h1 <;> first | (cases h1; done) | skip
   replace h1 := bif_some h1
   cases h1
   exact ⟨rfl, [], rfl⟩
  | nilFB b j c =>
   unfold adj1 at h1
   simp only at h1
   split at h1 <;> first | (cases h1; done) | skip
   split at h1 <;> first | (cases h1; done) | skip
   replace h1 := bif_some h1
   cases h1
   exact ⟨rfl, [_], rfl⟩
  | seg i p =>
   unfold adj1 at h1
   simp only at h1
   split at h1 <;> first | (cases h1; done) | skip
   split at h1 <;> first | (cases h1; done) | skip
   cases h1
   exact ⟨rfl, [_], rfl⟩
  | nilR b j t c =>
   unfold adj1 at h1
   simp only at h1
   split at h1 <;> first | (cases h1; done) | skip
   split at h1 <;> first | (cases h1; done) | skip
   replace h1 := bif_some h1
   replace h1 := bif_some h1
   cases h1
   exact ⟨rfl, [_, _], rfl⟩
  | avd u c n =>
   unfold adj1 at h1
   simp only at h1
   split at h1 <;> first | (cases h1; done) | skip
   replace h1 := bif_some h1
   split at h1 <;> first | (cases h1; done) | skip
   cases h1
   exact ⟨rfl, [], rfl⟩
  | ty i c =>
   unfold adj1 at h1
   simp only at h1
   split at h1 <;> first | (cases h1; done) | skip
   split at h1 <;> first | (cases h1; done) | skip
   cases h1
   exact ⟨rfl, [_], rfl⟩
end
def okL (nb nx1 : Nat) : Ren2 → Bool
 | [] => true
 | (k, j) :: r => Nat.blt j nx1 && ((bif Nat.blt j nb then Nat.beq k j else true) && (isNone (fwd r k) && (isNone (bck r j) && okL nb nx1 r)))
theorem fwd_okL {nb nx1 : Nat} : ∀ {L : Ren2} {i j : Nat}, okL nb nx1 L = true → fwd L i = some j → bck L j = some i ∧ j < nx1 ∧ (j < nb → i = j)
 | [], i, j, _, h => by cases h
 | (k, m) :: r, i, j, h0, h => by
  unfold okL at h0
  simp only [Bool.and_eq_true] at h0
  obtain ⟨a1, a2, a3, a4, a5⟩ := h0
  unfold fwd at h
  cases hb : Nat.beq k i with
  | true =>
   rw [hb] at h
   cases h
   obtain rfl := Nat.eq_of_beq_eq_true hb
   refine ⟨?_, Nat.le_of_ble_eq_true a1, fun hlt => ?_⟩
   ·unfold bck
    rw [beq_self]
    rfl
   ·rw [show Nat.blt m nb = true from Nat.ble_eq_true_of_le hlt] at a2
    exact Nat.eq_of_beq_eq_true a2
  | false =>
   rw [hb] at h
   obtain ⟨h1, h2⟩ := fwd_okL a5 h
   refine ⟨?_, h2⟩
   unfold bck
   cases hm : Nat.beq m j with
   | true =>
    obtain rfl := Nat.eq_of_beq_eq_true hm
    rw [isNone_iff.1 a4] at h1
    cases h1
   | false => exact h1
def inv3 (nb : Nat) (L : Ren2) (j : Nat) : Nat := bif Nat.blt j nb then j else match bck L j with
 | some k => k
 | none => 0
def nm3 (N : Nm) (nb : Nat) (L : Ren2) : Nm := ⟨fun j => N.b (inv3 nb L j), fun j => N.q (inv3 nb L j)⟩
theorem inv3_fwd {nb nx1 : Nat} {L : Ren2} (h0 : okL nb nx1 L = true) {i j : Nat} (h : fwd L i = some j) : inv3 nb L j = i := by
 obtain ⟨h1, _, h3⟩ := fwd_okL h0 h
 unfold inv3
 cases hb : Nat.blt j nb with
 | true => exact (h3 (Nat.le_of_ble_eq_true hb)).symm
 | false => rw [h1]; rfl
theorem inv3_small {nb : Nat} {L : Ren2} {j : Nat} (h : j < nb) : inv3 nb L j = j := by
 unfold inv3
 rw [show Nat.blt j nb = true from Nat.ble_eq_true_of_le h]
 rfl
theorem pk3 {N : Nm} {nb n nx1 : Nat} {L : Ren2} (h0 : okL nb nx1 L = true) : Pk (fwd L) N n (nm3 N nb L) nx1 := fun i j _ hj => by
 have h1 := inv3_fwd h0 hj
 exact ⟨(fwd_okL h0 hj).2.1, by show N.b (inv3 nb L j) = _; rw [h1], by show N.q (inv3 nb L j) = _; rw [h1]⟩
def getD (u : Nat) (t : Slots) : A := match look u t with
 | some x => x
 | none => .dead
def pickT (L : Ren2) (t : Slots) : List Nat → Slots
 | [] => []
 | u :: r => (u, (getD u t).pk (fwd L)) :: pickT L t r
def pickO (L : Ren2) (o : Objs) : List Nat → Objs
 | [] => []
 | i :: r => match fwd L i with
  | some j => (j, match lookO i o with
   | some ob => some (ob.pk (fwd L))
   | none => none) :: pickO L o r
  | none => pickO L o r
def pickS (nx1 : Nat) (L : Ren2) (us os : List Nat) (s : St) : St := ⟨s.n, nx1, pickT L s.t us, pickO L s.o os⟩
section
variable {Z : Base} {F : Nat → Prop} {N N' : Nm} {nx nx' : Nat} {s : St} {a : Act} {R : World} {tm : Nat → Value} {ρ : Nat → Option Nat}
theorem HS.pk (st : Pk ρ N nx N' nx') : ∀ {x : A} {y : Value}, HS F N nx R tm x y → HS F N' nx' R tm (x.pk ρ) y
 | .opt u b x, y, h => by
  unfold A.pk
  simp only [HS] at h ⊢
  exact ⟨fun hb => HS.pk st (h.1 hb), h.2⟩
 | .v _, _, h => (HS_plain (by unfold A.pk; rfl)).2 (((HS_plain rfl).1 h).pk st)
 | .sl _ _, _, h => (HS_plain (by unfold A.pk; rfl)).2 (((HS_plain rfl).1 h).pk st)
 | .ref _, _, h => (HS_plain (by unfold A.pk; rfl)).2 (((HS_plain rfl).1 h).pk st)
 | .nl, _, h => (HS_plain (by unfold A.pk; rfl)).2 (((HS_plain rfl).1 h).pk st)
 | .it _ _, _, h => (HS_plain (by unfold A.pk; rfl)).2 (((HS_plain rfl).1 h).pk st)
 | .fn _ _ _, _, h => (HS_plain (by unfold A.pk; rfl)).2 (((HS_plain rfl).1 h).pk st)
 | .agg _, _, h => (HS_plain (by unfold A.pk; rfl)).2 (((HS_plain rfl).1 h).pk st)
 | .tup _, _, h => (HS_plain (by unfold A.pk; rfl)).2 (((HS_plain rfl).1 h).pk st)
 | .dead, _, h => (HS_plain (by unfold A.pk; rfl)).2 (((HS_plain rfl).1 h).pk st)
 | .own _ _, _, h => (HS_plain (((HS_plain rfl).1 h).pk st).isPlain).2 (((HS_plain rfl).1 h).pk st)
 | .ownx _ _ _ _, _, h => (HS_plain (((HS_plain rfl).1 h).pk st).isPlain).2 (((HS_plain rfl).1 h).pk st)
 | .sq _, _, h => (HS_plain (((HS_plain rfl).1 h).pk st).isPlain).2 (((HS_plain rfl).1 h).pk st)
 | .dq _, _, h => (HS_plain (((HS_plain rfl).1 h).pk st).isPlain).2 (((HS_plain rfl).1 h).pk st)
 | .iv _ _, _, h => (HS_plain (((HS_plain rfl).1 h).pk st).isPlain).2 (((HS_plain rfl).1 h).pk st)
 | .de _ _ _ _, _, h => (HS_plain (((HS_plain rfl).1 h).pk st).isPlain).2 (((HS_plain rfl).1 h).pk st)
 | .ie _ _ _ _ _, _, h => (HS_plain (((HS_plain rfl).1 h).pk st).isPlain).2 (((HS_plain rfl).1 h).pk st)
 | .vw _ _ _ _ _, _, h => (HS_plain (((HS_plain rfl).1 h).pk st).isPlain).2 (((HS_plain rfl).1 h).pk st)
 | .el _ _ _ _, _, h => (HS_plain (((HS_plain rfl).1 h).pk st).isPlain).2 (((HS_plain rfl).1 h).pk st)
 | .mp _, _, h => (HS_plain (((HS_plain rfl).1 h).pk st).isPlain).2 (((HS_plain rfl).1 h).pk st)
 | .av _ _ _, _, h => (HS_plain (by unfold A.pk; rfl)).2 (((HS_plain rfl).1 h).pk st)
 | .rv _, _, h => (HS_plain (by unfold A.pk; rfl)).2 (((HS_plain rfl).1 h).pk st)
 | .vr _ _ _ _, _, h => (HS_plain (((HS_plain rfl).1 h).pk st).isPlain).2 (((HS_plain rfl).1 h).pk st)
theorem look_pickT {L : Ren2} {t : Slots} {u : Nat} {x : A} : ∀ {us : List Nat}, look u (pickT L t us) = some x → x = (getD u t).pk (fwd L)
 | [], h => by cases h
 | v :: r, h => by
  have h' : (bif Nat.beq v u then some ((getD v t).pk (fwd L)) else look u (pickT L t r)) = some x := h
  cases hb : Nat.beq v u with
  | true => rw [hb] at h'; obtain rfl := Nat.eq_of_beq_eq_true hb; cases h'; rfl
  | false => rw [hb] at h'; exact look_pickT h'
theorem lookO_pickO {L : Ren2} {o : Objs} {j : Nat} {ob' : Ob} : ∀ {os : List Nat}, lookO j (pickO L o os) = some ob' → ∃ i ob, i ∈ os ∧ fwd L i = some j ∧ lookO i o = some ob ∧ ob' = ob.pk (fwd L)
 | [], h => by cases h
 | i :: r, h => by
  unfold pickO at h
  cases hf : fwd L i with
  | none =>
   rw [hf] at h
   obtain ⟨i', ob, h1, h2⟩ := lookO_pickO h
   exact ⟨i', ob, List.mem_cons_of_mem _ h1, h2⟩
  | some m =>
   rw [hf] at h
   have h' : (bif Nat.beq m j then (match lookO i o with | some ob => some (ob.pk (fwd L)) | none => none) else lookO j (pickO L o r)) = some ob' := h
   cases hb : Nat.beq m j with
   | true =>
    rw [hb] at h'
    obtain rfl := Nat.eq_of_beq_eq_true hb
    simp only [cond_true] at h'
    split at h' <;> first | (cases h'; done) | skip
    rename_i ob hob
    cases h'
    exact ⟨i, ob, List.mem_cons_self .., hf, hob, rfl⟩
   | false =>
    rw [hb] at h'
    obtain ⟨i', ob, h1, h2⟩ := lookO_pickO h'
    exact ⟨i', ob, List.mem_cons_of_mem _ h1, h2⟩
theorem getD_ok (h : Rel Z F N s a R) (u : Nat) : HS F N s.nx R (tmOf a) (getD u s.t) (tmOf a u) := by
 unfold getD
 split
 ·rename_i x hx; exact h.slots u x hx
 ·exact (HS_plain rfl).2 (.dead _)
theorem Rel.pick (h : Rel Z F N s a R) {nb nx1 : Nat} {L : Ren2} (h0 : okL nb nx1 L = true) (hz : Z.nx ≤ nb) (hz1 : Z.nx ≤ nx1) (us os : List Nat) : Rel Z F (nm3 N nb L) (pickS nx1 L us os s) a R := by
 obtain ⟨q1, q2⟩ := h.hp.pk (o' := pickO L s.o os) (pk3 (N := N) (n := s.nx) h0) fun j ob' hj => by
  obtain ⟨i, ob, _, h1, h2⟩ := lookO_pickO hj
  exact ⟨i, ob, h1, h2⟩
 refine ⟨h.defers, h.size, fun u x hu => ?_, q1, ⟨hz1, fun i hi => ?_, fun i hi => ?_, h.st.f, h.st.fnew, fun g hg => h.st.foot g (q2 g hg), h.st.os, h.st.tape, h.st.output, h.st.size, h.st.keep⟩, h.tm⟩
 ·rw [look_pickT hu]
  exact (getD_ok h u).pk (pk3 h0)
 ·show N.b (inv3 nb L i) = _
  rw [inv3_small (by omega)]
  exact h.st.b i hi
 ·show N.q (inv3 nb L i) = _
  rw [inv3_small (by omega)]
  exact h.st.q i hi
end
def partT (t : Slots) : List Nat → Slots
 | [] => []
 | u :: r => (u, getD u t) :: partT t r
def partO (o : Objs) : List Nat → Objs
 | [] => []
 | i :: r => (i, lookO i o) :: partO o r
def partS (us os : List Nat) (s : St) : St := ⟨s.n, s.nx, partT s.t us, partO s.o os⟩
def partOuts (us os : List Nat) : Outs → Outs
 | [] => []
 | (t, c, s) :: r => (t, c, partS us os s) :: partOuts us os r
structure Shape where
 nb : Nat
 nx1 : Nat
 us : List Nat
 dirs : List Dir
 ren : Ren2
 os : List Nat
 usO : List Nat
 osO : List Nat
def roundE (E : Env) (u : Nat) (b : Code) (S : Shape) (s : St) : Option (List Prop × Outs × Cnd × St) :=
 let r := evH E u 0 b false s
 match r.nrm with
 | some s1 => match adj E S.dirs s1 with
  | some (s2, qs) => some (r.ps ++ gimps (cndP (noneOf r.outs)) qs, partOuts S.usO S.osO r.outs, noneOf r.outs, pickS S.nx1 S.ren S.us S.os s2)
  | none => none
 | none => none
section
variable {X : Type} (next : X → X) (goes : X → Cnd)
def iterX : Nat → X → X
 | 0, x => x
 | n + 1, x => bif cval (goes x) then iterX n (next x) else x
def needX (ps : X → List Prop) : Nat → X → Prop
 | 0, x => (∀ p ∈ ps x, p) ∧ cval (goes x) = false
 | n + 1, x => (∀ p ∈ ps x, p) ∧ (cval (goes x) = true → needX ps n (next x))
end
section
variable {Z : Base} {F : Nat → Prop} {N : Nm} {s : St} {a : Act} {R : World}
theorem look_partT {t : Slots} {u : Nat} {x : A} : ∀ {us : List Nat}, look u (partT t us) = some x → x = getD u t
 | [], h => by cases h
 | v :: r, h => by
  have h' : (bif Nat.beq v u then some (getD v t) else look u (partT t r)) = some x := h
  cases hb : Nat.beq v u with
  | true => rw [hb] at h'; obtain rfl := Nat.eq_of_beq_eq_true hb; cases h'; rfl
  | false => rw [hb] at h'; exact look_partT h'
theorem lookO_partO {o : Objs} {i : Nat} {ob : Ob} : ∀ {os : List Nat}, lookO i (partO o os) = some ob → lookO i o = some ob ∧ i ∈ os
 | [], h => by cases h
 | k :: r, h => by
  have h' : (bif Nat.beq k i then lookO k o else lookO i (partO o r)) = some ob := h
  cases hb : Nat.beq k i with
  | true => rw [hb] at h'; obtain rfl := Nat.eq_of_beq_eq_true hb; exact ⟨h', List.mem_cons_self ..⟩
  | false => rw [hb] at h'; exact ⟨(lookO_partO h').1, List.mem_cons_of_mem _ (lookO_partO h').2⟩
theorem Rel.part (h : Rel Z F N s a R) (us os : List Nat) : Rel Z F N (partS us os s) a R := by
 have ho : ∀ i ob, lookO i (partO s.o os) = some ob → lookO i s.o = some ob := fun i ob hi => (lookO_partO hi).1
 refine ⟨h.defers, h.size, fun u x hu => ?_, h.hp.weak ho, h.st.trans (Step.weak ho), h.tm⟩
 rw [look_partT hu]
 exact getD_ok h u
theorem getO_part {us os : List Nat} {t : Tag} : ∀ {o : Outs}, getO t (partOuts us os o) = match getO t o with | some (c, s) => some (c, partS us os s) | none => none
 | [] => rfl
 | (k, c, s) :: r => by
  show (bif tagB k t then some (c, partS us os s) else getO t (partOuts us os r)) = match (bif tagB k t then some (c, s) else getO t r) with | some (c, s) => some (c, partS us os s) | none => none
  cases tagB k t with
  | true => rfl
  | false => exact getO_part
theorem loop_ok {E : Env} (ok : CodeOk E) {u : Nat} {b : Code} {S : Shape} {X : Type} {T : X → St} {next : X → X} {goes : X → Cnd} {psA ps : X → List Prop} {outs : X → Outs} (hS : okL S.nb S.nx1 S.ren = true) (hnb : S.nb ≤ S.nx1)
  (hr : ∀ x, roundE E u b S (T x) = some (psA x, outs x, goes x, T (next x))) (hA : ∀ x, (∀ p ∈ ps x, p) → ∀ p ∈ psA x, p) {Z : Base} (hz : Z.nx ≤ S.nb) (hW : ∀ u, inW u (wrC b) = true → Z.W u) {Q : Exit → Act → World → Prop} : ∀ (n : Nat) (x : X) (a : Act) (R : World), At Z a R (T x) → needX next goes ps n x →
   (∀ e y a' R', Oc ⟨[], outs (iterX next goes n x), none⟩ e y → At Z a' R' y → Q e a' R') → Code.rounds E.P b Q (n + 1) a R := by
 intro n
 induction n with
 | zero =>
  intro x a R h hn hk
  obtain ⟨h1, h2⟩ := hn
  rw [rounds_succ]
  have hx := hr x
  unfold roundE at hx
  simp only at hx
  split at hx <;> first | (cases hx; done) | skip
  rename_i s1 hs1
  split at hx <;> first | (cases hx; done) | skip
  rename_i s2 qs hs2
  injection hx with hx
  injection hx with e1 hx
  injection hx with e2 hx
  injection hx with e3 e4
  replace h1 := hA x h1
  rw [← e1] at h1
  refine code_ok ok 0 b false Z (T x) a R _ h hW (all_append h1).1 fun e y a' R' ho hy => ?_
  have hwf := wf_code ok (u := u) 0 b false (T x)
  rcases ho with ⟨t, cc, rfl, g1, g2, g3⟩ | ⟨rfl, g1, g2⟩
  ·obtain ⟨F, N, hy⟩ := hy
   have : Oc ⟨[], outs x, none⟩ (Tag.ex t) (partS S.usO S.osO y) := by
    rw [← e2]
    refine .inl ⟨t, cc, rfl, by show getO t (partOuts _ _ _) = _; rw [getO_part, g1], g2, fun t' c' s' hne hg => ?_⟩
    have hg' : getO t' (partOuts S.usO S.osO (evH E u 0 b false (T x)).outs) = some (c', s') := hg
    rw [getO_part] at hg'
    cases h5 : getO t' (evH E u 0 b false (T x)).outs with
    | none => rw [h5] at hg'; cases hg'
    | some z => obtain ⟨c1, z⟩ := z; rw [h5] at hg'; cases hg'; exact g3 t' _ z hne h5
   have := hk _ _ a' R' this ⟨F, N, hy.part _ _⟩
   cases t <;> exact this
  ·exfalso
   have := allF_noneOf hwf.once g2
   rw [e3, h2] at this
   cases this
 | succ n ih =>
  intro x a R h hn hk
  obtain ⟨h1, h2⟩ := hn
  rw [rounds_succ]
  have hx := hr x
  unfold roundE at hx
  simp only at hx
  split at hx <;> first | (cases hx; done) | skip
  rename_i s1 hs1
  split at hx <;> first | (cases hx; done) | skip
  rename_i s2 qs hs2
  injection hx with hx
  injection hx with e1 hx
  injection hx with e2 hx
  injection hx with e3 e4
  replace h1 := hA x h1
  rw [← e1] at h1
  refine code_ok ok 0 b false Z (T x) a R _ h hW (all_append h1).1 fun e y a' R' ho hy => ?_
  have hwf := wf_code ok (u := u) 0 b false (T x)
  rcases ho with ⟨t, cc, rfl, g1, g2, g3⟩ | ⟨rfl, g1, g2⟩
  ·obtain ⟨F, N, hy⟩ := hy
   have hc : cval (goes x) = false := by rw [← e3]; exact noneOf_no g1 g2
   have hi : iterX next goes (n + 1) x = x := by unfold iterX; rw [hc]; rfl
   rw [hi] at hk
   have : Oc ⟨[], outs x, none⟩ (Tag.ex t) (partS S.usO S.osO y) := by
    rw [← e2]
    refine .inl ⟨t, cc, rfl, by show getO t (partOuts _ _ _) = _; rw [getO_part, g1], g2, fun t' c' s' hne hg => ?_⟩
    have hg' : getO t' (partOuts S.usO S.osO (evH E u 0 b false (T x)).outs) = some (c', s') := hg
    rw [getO_part] at hg'
    cases h5 : getO t' (evH E u 0 b false (T x)).outs with
    | none => rw [h5] at hg'; cases hg'
    | some z => obtain ⟨c1, z⟩ := z; rw [h5] at hg'; cases hg'; exact g3 t' _ z hne h5
   have := hk _ _ a' R' this ⟨F, N, hy.part _ _⟩
   cases t <;> exact this
  ·have hc : cval (goes x) = true := by rw [← e3]; exact allF_noneOf hwf.once g2
   have hi : iterX next goes (n + 1) x = iterX next goes n (next x) := by
    show (bif cval (goes x) then _ else _) = _
    rw [hc]; rfl
   rw [hi] at hk
   rw [hs1] at g1
   obtain rfl := Option.some.inj g1
   have hq : ∀ p ∈ qs, p := gimps_ok (all_append h1).2 (cndP_ok (by rw [e3]; exact hc))
   obtain ⟨F, N, h3⟩ := adj_ok hy hs2 hq
   have h4 := h3.pick hS hz (Nat.le_trans hz hnb) S.us S.os
   rw [e4] at h4
   exact ih (next x) a' R' ⟨F, _, h4⟩ (h2 hc) hk
end
def findLoop (l : Nat) : Code → Option Code
 | .seq a b => match findLoop l a with
  | some c => some c
  | none => findLoop l b
 | .cond _ a b => match findLoop l a with
  | some c => some c
  | none => findLoop l b
 | .block id b => match Nat.beq id l, b with
  | true, .loop c => some c
  | _, _ => findLoop l b
 | .loop b => findLoop l b
 | .scope b => findLoop l b
 | .rangeFunc _ _ _ b => findLoop l b
 | _ => none
def loopAt (P : Program) (f : FuncId) (l : Nat) : Code := match P.funcs[f]? with
 | some fn => match fn.body with
  | some c => match findLoop l c with
   | some b => b
   | none => .skip
  | none => .skip
 | none => .skip
def addLp (l0 : Nat) (g : St → Option (Code × List Prop × Outs)) (L : LTab) : LTab := fun l s => bif Nat.beq l l0 then g s else L l s
def deadW : List Nat → Slots
 | [] => []
 | u :: r => (u, .dead) :: deadW r
def maskO : List Nat → Objs
 | [] => []
 | i :: r => (i, none) :: maskO r
def combS (W os : List Nat) (sA st : St) : St := ⟨sA.n, st.nx, st.t ++ (deadW W ++ killW W sA.t), st.o ++ (maskO os ++ sA.o)⟩
def combOuts (W os : List Nat) (sA : St) : Outs → Outs
 | [] => []
 | (t, c, s) :: r => (t, c, combS W os sA s) :: combOuts W os sA r
structure Entry where
 dirs : List Dir
 ren : Ren2
 us : List Nat
 os : List Nat
def rowL (E : Env) (b : Code) (S : Shape) (En : Entry) {X : Type} (unT : St → Option X) (fuel : X → Nat) (next : X → X) (goes : X → Cnd) (ps : X → List Prop) (outs : X → Outs) (s : St) : Option (Code × List Prop × Outs) :=
 match adj E En.dirs s with
 | some (sA, qs) => bif Nat.beq sA.nx S.nb then (bif okL S.nb S.nx1 En.ren then (match unT (pickS S.nx1 En.ren En.us En.os sA) with
  | some x => some (b, qs ++ [needX next goes ps (fuel x) x], combOuts (wrC b) En.os sA (outs (iterX next goes (fuel x) x)))
  | none => none) else none) else none
 | none => none
section
theorem inW_mem {u : Nat} : ∀ {W : List Nat}, inW u W = true → look u (deadW W) = some .dead
 | [], h => by cases h
 | k :: r, h => by
  show (bif Nat.beq k u then some A.dead else look u (deadW r)) = _
  cases hb : Nat.beq k u with
  | true => rfl
  | false =>
   have h' : (bif Nat.beq k u then true else inW u r) = true := h
   rw [hb] at h'
   exact inW_mem h'
theorem look_deadW {u : Nat} {x : A} : ∀ {W : List Nat}, look u (deadW W) = some x → x = .dead
 | [], h => by cases h
 | k :: r, h => by
  have h' : (bif Nat.beq k u then some A.dead else look u (deadW r)) = some x := h
  cases hb : Nat.beq k u with
  | true => rw [hb] at h'; cases h'; rfl
  | false => rw [hb] at h'; exact look_deadW h'
theorem lookO_maskO {i : Nat} : ∀ {os : List Nat}, lookO i (maskO os) = none
 | [] => rfl
 | k :: r => by
  show (bif Nat.beq k i then none else lookO i (maskO r)) = none
  cases Nat.beq k i with
  | true => rfl
  | false => exact lookO_maskO
theorem keysO_maskO {i : Nat} : ∀ {os : List Nat}, i ∈ os → i ∈ keysO (maskO os)
 | [], h => by cases h
 | k :: r, h => by
  rcases List.mem_cons.1 h with rfl | h
  ·exact List.mem_cons_self ..
  ·exact List.mem_cons_of_mem _ (keysO_maskO h)
theorem getO_comb {W os : List Nat} {sA : St} {t : Tag} : ∀ {o : Outs}, getO t (combOuts W os sA o) = match getO t o with | some (c, s) => some (c, combS W os sA s) | none => none
 | [] => rfl
 | (k, c, s) :: r => by
  show (bif tagB k t then some (c, combS W os sA s) else getO t (combOuts W os sA r)) = match (bif tagB k t then some (c, s) else getO t r) with | some (c, s) => some (c, combS W os sA s) | none => none
  cases tagB k t with
  | true => rfl
  | false => exact getO_comb
theorem once_comb {W os : List Nat} {sA : St} : ∀ {o : Outs}, Once o → Once (combOuts W os sA o)
 | [], _ => trivial
 | (k, c, s) :: r, ⟨h1, h2⟩ => ⟨by rw [getO_comb, h1], once_comb h2⟩
theorem comb_ok {Z : Base} {F F' : Nat → Prop} {N N' : Nm} {sA st : St} {a a' : Act} {R R' : World} {nb nx1 : Nat} {L : Ren2} {os W : List Nat} (h : Rel Z F N sA a R) (hn : st.n = sA.n) (hW : ∀ u, inW u W = true → Z.W u) (hnb : sA.nx = nb) (hL : okL nb nx1 L = true)
  (h' : Rel ⟨F, nm3 N nb L, nb, pickO L sA.o os, R, tmOf a, fun u => inW u W = true⟩ F' N' st a' R') : Rel Z F' N' (combS W os sA st) a' R' := by
 subst hnb
 let o1 := partO sA.o os
 have ho1 : ∀ i ob, lookO i o1 = some ob → lookO i sA.o = some ob := fun i ob hi => (lookO_partO hi).1
 have hfoot : ∀ g, Foot (nm3 N sA.nx L) (pickO L sA.o os) g → Foot N o1 g := fun g ⟨j, ob', hj, hg⟩ => by
  obtain ⟨i, ob, hi, h1, h2, rfl⟩ := lookO_pickO hj
  have hlt := (h.hp.ob i ob h2).1
  refine ⟨i, ob, ?_, (foot_pk (pk3 (N := N) (n := sA.nx) hL) hlt h1).1 hg⟩
  have : ∀ {l : List Nat}, i ∈ l → lookO i (partO sA.o l) = lookO i sA.o := fun {l} => by
   induction l with
   | nil => intro hm; cases hm
   | cons k r ih =>
    intro hm
    show (bif Nat.beq k i then lookO k sA.o else lookO i (partO sA.o r)) = _
    cases hb : Nat.beq k i with
    | true => rw [Nat.eq_of_beq_eq_true hb]; rfl
    | false =>
     rcases List.mem_cons.1 hm with rfl | hm
     ·simp at hb
     ·exact ih hm
  rw [this hi]
  exact h2
 have st1 : Step F N sA.nx o1 R F' N' st.nx st.o R' := ⟨h'.st.le, fun i hi => by
   have := h'.st.b i hi
   rw [this]
   show N.b (inv3 sA.nx L i) = _
   rw [inv3_small hi], fun i hi => by
   have := h'.st.q i hi
   rw [this]
   show N.q (inv3 sA.nx L i) = _
   rw [inv3_small hi], h'.st.f, fun g hg => by
   rcases h'.st.fnew g hg with h1 | h1 | h1
   ·exact .inl h1
   ·exact .inr (.inl (hfoot g h1))
   ·exact .inr (.inr h1), fun g hg => by
   rcases h'.st.foot g hg with h1 | h1
   ·exact .inl (hfoot g h1)
   ·exact .inr h1, h'.st.os, h'.st.tape, h'.st.output, h'.st.size, fun g hg hn => h'.st.keep g hg fun hf => hn (hfoot g hf)⟩
 obtain ⟨q1, q2⟩ := h.hp.frame (o' := st.o ++ (maskO os ++ sA.o)) ho1 st1 h'.hp fun i ob hi => by
  rcases lookO_split hi with ⟨_, h1⟩ | ⟨_, h1⟩
  ·exact .inl h1
  ·rcases lookO_split h1 with ⟨_, h2⟩ | ⟨h2, h3⟩
   ·rw [lookO_maskO] at h2; cases h2
   ·refine .inr ⟨h3, ?_⟩
    cases h4 : lookO i o1 with
    | none => rfl
    | some ob2 => exact absurd (keysO_maskO (lookO_partO h4).2) h2
 have htm : ∀ u, inW u W = false → tmOf a' u = tmOf a u := fun u hu => h'.tm u fun hh => by
  have hh' : inW u W = true := hh
  rw [hu] at hh'; cases hh'
 refine ⟨h'.defers, h'.size.trans hn, fun u x hu => ?_, q1, h.st.trans q2, fun u hu => ?_⟩
 ·have hu' : look u (st.t ++ (deadW W ++ killW W sA.t)) = some x := hu
  rw [look_append] at hu'
  cases h1 : look u st.t with
  | some y => rw [h1] at hu'; cases hu'; exact h'.slots u x h1
  | none =>
   rw [h1] at hu'
   have hu2 : look u (deadW W ++ killW W sA.t) = some x := hu'
   rw [look_append] at hu2
   cases h2 : look u (deadW W) with
   | some y => rw [h2] at hu2; cases hu2; rw [look_deadW h2]; exact (HS_plain rfl).2 (.dead _)
   | none =>
    rw [h2] at hu2
    have hu3 : look u (killW W sA.t) = some x := hu2
    have hw : inW u W = false := by
     cases hw : inW u W with
     | false => rfl
     | true => rw [inW_mem hw] at h2; cases h2
    rcases look_killW hu3 with rfl | ⟨k1, k2⟩
    ·exact (HS_plain rfl).2 (.dead _)
    ·rw [htm u hw]
     exact HS.congrW htm k2 ((h.slots u x k1).step (q2.ext h.hp))
 ·rw [h'.tm u fun hw => hu (hW u hw)]
  exact h.tm u hu
theorem rowL_ok {E : Env} (ok : CodeOk E) {u : Nat} {b : Code} {S : Shape} {En : Entry} {X : Type} {T : X → St} {unT : St → Option X} {fuel : X → Nat} {next : X → X} {goes : X → Cnd} {psA ps : X → List Prop} {outs : X → Outs} (hS : okL S.nb S.nx1 S.ren = true) (hnb : S.nb ≤ S.nx1)
  (hr : ∀ x, roundE E u b S (T x) = some (psA x, outs x, goes x, T (next x))) (hA : ∀ x, (∀ p ∈ ps x, p) → ∀ p ∈ psA x, p) (hu : ∀ s x, unT s = some x → s = T x)
  (hw : ∀ x, Once (outs x) ∧ ∀ t c y, getO t (outs x) = some (c, y) → y.n = (T x).n) (hTn : ∀ x y, (T x).n = (T y).n) {s : St} {b0 : Code} {qs : List Prop} {os : Outs} (he : rowL E b S En unT fuel next goes ps outs s = some (b0, qs, os)) :
  Wf s ⟨qs, os, none⟩ ∧ LoopOk E b0 s qs os := by
 unfold rowL at he
 split at he <;> first | (cases he; done) | skip
 rename_i sA ps1 hAd
 cases hq1 : Nat.beq sA.nx S.nb with
 | false => rw [hq1] at he; cases he
 | true =>
  cases hq2 : okL S.nb S.nx1 En.ren with
  | false => rw [hq1, hq2] at he; cases he
  | true =>
   rw [hq1, hq2] at he
   simp only [cond_true] at he
   split at he <;> first | (cases he; done) | skip
   rename_i x hx
   cases he
   have hnx := Nat.eq_of_beq_eq_true hq1
   have hT := hu _ _ hx
   have hsub := adj_sub hAd
   have hnT : ∀ y, (T y).n = sA.n := fun y => by rw [hTn y x, ← hT]; rfl
   refine ⟨⟨fun t c y hy => ?_, fun y hy => (by cases hy), once_comb (hw _).1⟩, ?_⟩
   ·have hy' : getO t (combOuts (wrC b) En.os sA (outs (iterX next goes (fuel x) x))) = some (c, y) := hy
    rw [getO_comb] at hy'
    split at hy' <;> first | (cases hy'; done) | skip
    cases hy'
    obtain ⟨d, hd⟩ := hsub.seq
    exact ⟨hsub.n, by show ∃ d, _ ++ (maskO En.os ++ sA.o) = d ++ s.o; rw [hd]; exact ⟨_, by rw [← List.append_assoc, ← List.append_assoc]⟩⟩
   ·intro Z F N a R Q h hW hp hk
    have hp1 : ∀ p ∈ ps1, p := fun p hm => hp p (List.mem_append.2 (.inl hm))
    have hneed : needX next goes ps (fuel x) x := hp _ (List.mem_append.2 (.inr (List.mem_singleton.2 rfl)))
    obtain ⟨F1, N1, h1⟩ := adj_ok ⟨F, N, h⟩ hAd hp1
    have hpick := (h1.start (wrC b)).pick (L := En.ren) hq2 (by show sA.nx ≤ S.nb; omega) (by show sA.nx ≤ S.nx1; omega) En.us En.os
    have hrel : Rel ⟨F1, nm3 N1 S.nb En.ren, S.nb, pickO En.ren sA.o En.os, R, tmOf a, fun u => inW u (wrC b) = true⟩ F1 (nm3 N1 S.nb En.ren) (T x) a R := by
     rw [← hT]
     exact ⟨hpick.defers, hpick.size, hpick.slots, hpick.hp, ⟨hnb, fun _ _ => rfl, fun _ _ => rfl, fun _ h => h, fun _ h => .inl h, fun _ h => .inl h, rfl, rfl, rfl, Nat.le_refl _, fun _ _ _ => rfl⟩, fun _ _ => rfl⟩
    refine wp_loop_rounds (fuel x + 1) (loop_ok ok (u := u) (b := b) hS hnb hr hA (Nat.le_refl _) (fun u hu => hu) (fuel x) x a R ⟨F1, _, hrel⟩ hneed fun e y a' R' ho ⟨F2, N2, hy⟩ => ?_)
    rcases ho with ⟨t, c, rfl, g1, g2, g3⟩ | ⟨rfl, g1, g2⟩
    ·have g1' : getO t (outs (iterX next goes (fuel x) x)) = some (c, y) := g1
     refine hk _ (combS (wrC b) En.os sA y) F2 N2 a' R' (.inl ⟨t, c, rfl, by show getO t (combOuts _ _ _ _) = _; rw [getO_comb, g1'], g2, fun t' c' s' hne hg => ?_⟩) (comb_ok h1 (by rw [(hw _).2 t c y g1', hnT]) hW hnx hq2 hy)
     have hg' : getO t' (combOuts (wrC b) En.os sA (outs (iterX next goes (fuel x) x))) = some (c', s') := hg
     rw [getO_comb] at hg'
     split at hg' <;> first | (cases hg'; done) | skip
     rename_i c1 z hz
     cases hg'
     exact g3 t' _ z hne hz
    ·cases g1
end
end Go.Proofs.Ytnfmceffbnaanaa
namespace Go.Proofs.Ytnfmceffbnaanaa
open Go.RowKit
def zc : TC → List Value
 | .u8 => [.int .u8 0]
 | .i64 => [.int .i64 0]
 | .u32 => [.int .u32 0]
 | .bool => [.bool false]
 | .str => [.string ByteArray.empty]
 | .bytes => [.slice none 0 0]
 | .ints => [.slice none 0 0]
 | .cells => [.slice none 0 0]
 | .rsl => [.slice none 0 0]
 | .rows => [.slice none 0 0]
 | .digest => List.replicate 32 (.int .u8 0)
 | c => (enc c (dflt c)).map fun x => match x with
  | .v y => y
  | _ => .slice none 0 0
theorem zc_ok (c : TC) (F : Nat → Prop) (N : Nm) (nx : Nat) (R : World) : HL F N nx R (enc c (dflt c)) (zc c) := by
 cases c <;> (repeat' (first | exact HL.nil | exact Hv.v _ | exact Hv.sl_nil rfl | apply HL.cons))
def tcRow (P : Program) (t : TypeId) : Option (Nat × Option (List Value)) := (P.info? t).map fun i => (i.size, i.zero.map fun z => z.cells.toList)
theorem tcRow_ok {P : Program} {t : TypeId} {c : TC} (h : tcRow P t = some (size c, some (zc c))) (h0 : 0 < size c) : ∃ i, P.info? t = some i ∧ i.size = size c ∧ 0 < size c ∧ ∃ z, i.zero = some z ∧ ∀ (F : Nat → Prop) (N : Nm) (nx : Nat) (R : World), HL F N nx R (enc c (dflt c)) z.cells.toList := by
 unfold tcRow at h
 cases hi : P.info? t with
 | none => rw [hi] at h; cases h
 | some i =>
  rw [hi] at h
  have h' : some (i.size, i.zero.map fun z => z.cells.toList) = some (size c, some (zc c)) := h
  injection h' with h'
  injection h' with h1 h2
  cases hz : i.zero with
  | none => rw [hz] at h2; cases h2
  | some z =>
   rw [hz] at h2
   injection h2 with h2
   have h3 : z.cells.toList = zc c := h2
   exact ⟨i, rfl, h1, h0, z, hz, fun F N nx R => by rw [h3]; exact zc_ok c F N nx R⟩
theorem size_pos (c : TC) : 0 < size c := by cases c <;> decide
def tcTab (t : TypeId) : Option TC := bif Nat.beq t 2 then some .i64 else bif Nat.beq t 3 then some .i64 else bif Nat.beq t 4 then some .bool else bif Nat.beq t 5 then some .u8 else bif Nat.beq t 9 then some .str else bif Nat.beq t 27 then some .cells else bif Nat.beq t 29 then some .row else bif Nat.beq t 31 then some .act else bif Nat.beq t 32 then some .i64 else bif Nat.beq t 36 then some .rows else bif Nat.beq t 60 then some .stamp else bif Nat.beq t 61 then some .vec else bif Nat.beq t 62 then some .vec else bif Nat.beq t 64 then some .cell else bif Nat.beq t 75 then some .block else bif Nat.beq t 89 then some .u32 else none
theorem tc2_row : tcRow Try.prog 2 = some (size .i64, some (zc .i64)) := by kernel_rfl
theorem tc3_row : tcRow Try.prog 3 = some (size .i64, some (zc .i64)) := by kernel_rfl
theorem tc4_row : tcRow Try.prog 4 = some (size .bool, some (zc .bool)) := by kernel_rfl
theorem tc5_row : tcRow Try.prog 5 = some (size .u8, some (zc .u8)) := by kernel_rfl
theorem tc9_row : tcRow Try.prog 9 = some (size .str, some (zc .str)) := by kernel_rfl
theorem tc27_row : tcRow Try.prog 27 = some (size .cells, some (zc .cells)) := by kernel_rfl
theorem tc29_row : tcRow Try.prog 29 = some (size .row, some (zc .row)) := by kernel_rfl
theorem tc31_row : tcRow Try.prog 31 = some (size .act, some (zc .act)) := by kernel_rfl
theorem tc32_row : tcRow Try.prog 32 = some (size .i64, some (zc .i64)) := by kernel_rfl
theorem tc36_row : tcRow Try.prog 36 = some (size .rows, some (zc .rows)) := by kernel_rfl
theorem tc60_row : tcRow Try.prog 60 = some (size .stamp, some (zc .stamp)) := by kernel_rfl
theorem tc61_row : tcRow Try.prog 61 = some (size .vec, some (zc .vec)) := by kernel_rfl
theorem tc62_row : tcRow Try.prog 62 = some (size .vec, some (zc .vec)) := by kernel_rfl
theorem tc64_row : tcRow Try.prog 64 = some (size .cell, some (zc .cell)) := by kernel_rfl
theorem tc75_row : tcRow Try.prog 75 = some (size .block, some (zc .block)) := by kernel_rfl
theorem tc89_row : tcRow Try.prog 89 = some (size .u32, some (zc .u32)) := by kernel_rfl
theorem tcStep {P : Program} {t k : TypeId} {c c0 : TC} {r : Option TC} (h : (bif Nat.beq t k then some c0 else r) = some c) (hk : tcRow P k = some (size c0, some (zc c0))) : tcRow P t = some (size c, some (zc c)) ∨ r = some c := by
 cases hb : Nat.beq t k with
 | true => rw [hb] at h; cases h; rw [Nat.eq_of_beq_eq_true hb]; exact .inl hk
 | false => rw [hb] at h; exact .inr h
theorem tcTab_ok : TcOk Try.prog tcTab := fun t c h => by
 refine tcRow_ok ?_ (size_pos c)
 unfold tcTab at h
 rcases tcStep h tc2_row with h | h
 ·exact h
 rcases tcStep h tc3_row with h | h
 ·exact h
 rcases tcStep h tc4_row with h | h
 ·exact h
 rcases tcStep h tc5_row with h | h
 ·exact h
 rcases tcStep h tc9_row with h | h
 ·exact h
 rcases tcStep h tc27_row with h | h
 ·exact h
 rcases tcStep h tc29_row with h | h
 ·exact h
 rcases tcStep h tc31_row with h | h
 ·exact h
 rcases tcStep h tc32_row with h | h
 ·exact h
 rcases tcStep h tc36_row with h | h
 ·exact h
 rcases tcStep h tc60_row with h | h
 ·exact h
 rcases tcStep h tc61_row with h | h
 ·exact h
 rcases tcStep h tc62_row with h | h
 ·exact h
 rcases tcStep h tc64_row with h | h
 ·exact h
 rcases tcStep h tc75_row with h | h
 ·exact h
 rcases tcStep h tc89_row with h | h
 ·exact h
 cases h
end Go.Proofs.Ytnfmceffbnaanaa
namespace Go.Proofs.Ytnfmceffbnaanaa
open Go.RowKit
theorem eqi (d : Nat) (a b : Int) (w : World) : (Op.equalIn (d + 1) 3 (.int .i64 a) (.int .i64 b)).run Try.prog w = .ok (a == b) w := run_equalIn_int w d 3 .i64 .i64 a b Try.underlying3
theorem eqb (d : Nat) (a b : Bool) (w : World) : (Op.equalIn (d + 1) 4 (.bool a) (.bool b)).run Try.prog w = .ok (a == b) w := run_equalIn_bool' w d 4 a b Try.underlying4
theorem eqs (d : Nat) (a b : ByteArray) (w : World) : (Op.equalIn (d + 1) 9 (.string a) (.string b)).run Try.prog w = .ok (a.toList == b.toList) w := run_equalIn_string w d 9 a b Try.underlying9
@[go_sem] theorem eqVec (d : Nat) (a b x y : Int) (w : World) : (Op.equalIn (d + 2) 62 (.agg #[.int .i64 a, .int .i64 b]) (.agg #[.int .i64 x, .int .i64 y])).run Try.prog w = .ok (a == x && b == y) w := by
 have p0 : ∀ a b w, (part 3 #[.int .i64 a, .int .i64 b] 0).run Try.prog w = Result.ok (.int .i64 a) w := fun a b w => by kernel_rfl
 have p1 : ∀ a b w, (part 3 #[.int .i64 a, .int .i64 b] 1).run Try.prog w = Result.ok (.int .i64 b) w := fun a b w => by kernel_rfl
 unfold Op.equalIn
 cases h : a == x
 ·simp [Sem.run_bind, run_underlying Try.underlying62, List.range', p0, eqi, h]
 ·cases h' : b == y <;> simp [Sem.run_bind, run_underlying Try.underlying62, List.range', p0, p1, eqi, h, h']
@[go_sem] theorem eqInt2 (d : Nat) (a b x y : Int) (w : World) : (Op.equalIn (d + 2) 61 (.agg #[.int .i64 a, .int .i64 b]) (.agg #[.int .i64 x, .int .i64 y])).run Try.prog w = .ok (a == x && b == y) w := by
 have p0 : ∀ a b w, (part 3 #[.int .i64 a, .int .i64 b] 0).run Try.prog w = Result.ok (.int .i64 a) w := fun a b w => by kernel_rfl
 have p1 : ∀ a b w, (part 3 #[.int .i64 a, .int .i64 b] 1).run Try.prog w = Result.ok (.int .i64 b) w := fun a b w => by kernel_rfl
 unfold Op.equalIn
 cases h : a == x
 ·simp [Sem.run_bind, run_underlying Try.underlying61, List.range', p0, eqi, h]
 ·cases h' : b == y <;> simp [Sem.run_bind, run_underlying Try.underlying61, List.range', p0, p1, eqi, h, h']
@[go_sem] theorem eqStamp (d : Nat) (a b x y : Int) (w : World) : (Op.equalIn (d + 2) 60 (.agg #[.int .i64 a, .int .i64 b]) (.agg #[.int .i64 x, .int .i64 y])).run Try.prog w = .ok (a == x && b == y) w := by
 rw [run_equalIn_struct w (d + 1) 60 _ _ (by kernel_rfl) (by kernel_rfl)]
 have p0 : ∀ a b w, (part 3 #[.int .i64 a, .int .i64 b] 0).run Try.prog w = Result.ok (.int .i64 a) w := fun a b w => by kernel_rfl
 have p1 : ∀ a b w, (part 3 #[.int .i64 a, .int .i64 b] 1).run Try.prog w = Result.ok (.int .i64 b) w := fun a b w => by kernel_rfl
 cases h : a == x
 ·simp [Program.fieldsOf, Try.underlying60, Op.eqFields, Sem.run_bind, p0, eqi, h]
 ·cases h' : b == y <;> simp [Program.fieldsOf, Try.underlying60, Op.eqFields, Sem.run_bind, p0, p1, eqi, h, h']
@[go_sem] theorem eqCell (d : Nat) (a0 a1 a2 a3 a6 a7 b0 b1 b2 b3 b6 b7 : Int) (a4 b4 : Bool) (a5 b5 : ByteArray) (w : World) : (Op.equalIn (d + 3) 64 (.agg #[.int .i64 a0, .int .i64 a1, .int .i64 a2, .int .i64 a3, .bool a4, .string a5, .int .i64 a6, .int .i64 a7]) (.agg #[.int .i64 b0, .int .i64 b1, .int .i64 b2, .int .i64 b3, .bool b4, .string b5, .int .i64 b6, .int .i64 b7])).run Try.prog w = .ok ((a0 == b0 && a1 == b1) && ((a2 == b2 && a3 == b3) && ((a4 == b4) && ((a5.toList == b5.toList) && (a6 == b6 && a7 == b7))))) w := by
 rw [run_equalIn_struct w (d + 2) 64 _ _ (by kernel_rfl) (by kernel_rfl)]
 have p0 : ∀ (a0 a1 a2 a3 a6 a7 : Int) (a4 : Bool) (a5 : ByteArray) (w : World), (part 60 #[.int .i64 a0, .int .i64 a1, .int .i64 a2, .int .i64 a3, .bool a4, .string a5, .int .i64 a6, .int .i64 a7] 0).run Try.prog w = Result.ok (.agg #[.int .i64 a0, .int .i64 a1]) w := fun _ _ _ _ _ _ _ _ _ => by kernel_rfl
 have p1 : ∀ (a0 a1 a2 a3 a6 a7 : Int) (a4 : Bool) (a5 : ByteArray) (w : World), (part 62 #[.int .i64 a0, .int .i64 a1, .int .i64 a2, .int .i64 a3, .bool a4, .string a5, .int .i64 a6, .int .i64 a7] 2).run Try.prog w = Result.ok (.agg #[.int .i64 a2, .int .i64 a3]) w := fun _ _ _ _ _ _ _ _ _ => by kernel_rfl
 have p2 : ∀ (a0 a1 a2 a3 a6 a7 : Int) (a4 : Bool) (a5 : ByteArray) (w : World), (part 4 #[.int .i64 a0, .int .i64 a1, .int .i64 a2, .int .i64 a3, .bool a4, .string a5, .int .i64 a6, .int .i64 a7] 4).run Try.prog w = Result.ok (.bool a4) w := fun _ _ _ _ _ _ _ _ _ => by kernel_rfl
 have p3 : ∀ (a0 a1 a2 a3 a6 a7 : Int) (a4 : Bool) (a5 : ByteArray) (w : World), (part 9 #[.int .i64 a0, .int .i64 a1, .int .i64 a2, .int .i64 a3, .bool a4, .string a5, .int .i64 a6, .int .i64 a7] 5).run Try.prog w = Result.ok (.string a5) w := fun _ _ _ _ _ _ _ _ _ => by kernel_rfl
 have p4 : ∀ (a0 a1 a2 a3 a6 a7 : Int) (a4 : Bool) (a5 : ByteArray) (w : World), (part 62 #[.int .i64 a0, .int .i64 a1, .int .i64 a2, .int .i64 a3, .bool a4, .string a5, .int .i64 a6, .int .i64 a7] 6).run Try.prog w = Result.ok (.agg #[.int .i64 a6, .int .i64 a7]) w := fun _ _ _ _ _ _ _ _ _ => by kernel_rfl
 cases h0 : (a0 == b0 && a1 == b1)
 ·simp only [Program.fieldsOf, Try.underlying64, Op.eqFields, Sem.run_bind, Sem.run_ite, Sem.run_pure, Result.andThen_ok, p0, eqStamp, h0]; simp
 ·cases h1 : (a2 == b2 && a3 == b3)
  ·simp only [Program.fieldsOf, Try.underlying64, Op.eqFields, Sem.run_bind, Sem.run_ite, Sem.run_pure, Result.andThen_ok, p0, p1, eqStamp, eqVec, h0, h1]; simp
  ·cases h2 : (a4 == b4)
   ·simp only [Program.fieldsOf, Try.underlying64, Op.eqFields, Sem.run_bind, Sem.run_ite, Sem.run_pure, Result.andThen_ok, p0, p1, p2, eqStamp, eqVec, eqb, h0, h1, h2]; simp
   ·cases h3 : (a5.toList == b5.toList)
    ·simp only [Program.fieldsOf, Try.underlying64, Op.eqFields, Sem.run_bind, Sem.run_ite, Sem.run_pure, Result.andThen_ok, p0, p1, p2, p3, eqStamp, eqVec, eqb, eqs, h0, h1, h2, h3]; simp
    ·cases h4 : (a6 == b6 && a7 == b7)
     ·simp only [Program.fieldsOf, Try.underlying64, Op.eqFields, Sem.run_bind, Sem.run_ite, Sem.run_pure, Result.andThen_ok, p0, p1, p2, p3, p4, eqStamp, eqVec, eqb, eqs, h0, h1, h2, h3, h4]; simp
     ·simp only [Program.fieldsOf, Try.underlying64, Op.eqFields, Sem.run_bind, Sem.run_ite, Sem.run_pure, Result.andThen_ok, p0, p1, p2, p3, p4, eqStamp, eqVec, eqb, eqs, h0, h1, h2, h3, h4]; simp
theorem guardVec : Try.prog.eqGuardType Try.prog.depth 62 = false := by kernel_rfl
@[go_sem] theorem grdVec (op : BinOp) (x y : Operand) (xs ys : Array Value) (w : World) : (eqGuard op 62 x y (.agg xs) (.agg ys)).run Try.prog w = .ok () w := run_eqGuard_agg w op 62 x y xs ys guardVec
theorem guardInt2 : Try.prog.eqGuardType Try.prog.depth 61 = false := by kernel_rfl
@[go_sem] theorem grdInt2 (op : BinOp) (x y : Operand) (xs ys : Array Value) (w : World) : (eqGuard op 61 x y (.agg xs) (.agg ys)).run Try.prog w = .ok () w := run_eqGuard_agg w op 61 x y xs ys guardInt2
theorem guardStamp : Try.prog.eqGuardType Try.prog.depth 60 = false := by kernel_rfl
@[go_sem] theorem grdStamp (op : BinOp) (x y : Operand) (xs ys : Array Value) (w : World) : (eqGuard op 60 x y (.agg xs) (.agg ys)).run Try.prog w = .ok () w := run_eqGuard_agg w op 60 x y xs ys guardStamp
theorem guardCell : Try.prog.eqGuardType Try.prog.depth 64 = false := by kernel_rfl
@[go_sem] theorem grdCell (op : BinOp) (x y : Operand) (xs ys : Array Value) (w : World) : (eqGuard op 64 x y (.agg xs) (.agg ys)).run Try.prog w = .ok () w := run_eqGuard_agg w op 64 x y xs ys guardCell
end Go.Proofs.Ytnfmceffbnaanaa
namespace Go.Proofs.Ytnfmceffbnaanaa
open Go.RowKit
instance (n : Nat) : Decidable (Stuck n) := .isFalse id
theorem wideP : Try.prog.follows .mixedOrders = true := by kernel_rfl
def eqV2 : List Value → List Value → Option Bool
 | [.int .i64 a, .int .i64 b], [.int .i64 x, .int .i64 y] => some (a == x && b == y)
 | _, _ => none
def eqC8 : List Value → List Value → Option Bool
 | [.int .i64 a0, .int .i64 a1, .int .i64 a2, .int .i64 a3, .bool a4, .string a5, .int .i64 a6, .int .i64 a7], [.int .i64 b0, .int .i64 b1, .int .i64 b2, .int .i64 b3, .bool b4, .string b5, .int .i64 b6, .int .i64 b7] =>
  some ((a0 == b0 && a1 == b1) && ((a2 == b2 && a3 == b3) && ((a4 == b4) && ((a5.toList == b5.toList) && (a6 == b6 && a7 == b7)))))
 | _, _ => none
def eqDg (_ : TypeId) (_ _ : List Value) : Option Bool := none
theorem eqDg_ok : EqOk Try.prog eqDg := fun _ _ _ _ h => by cases h
abbrev eqMore := eqDg
theorem eqMore_ok : EqOk Try.prog eqMore := eqDg_ok
abbrev eqFl := eqMore
theorem eqFl_ok : EqOk Try.prog eqFl := eqMore_ok
def eqTab (t : TypeId) (xs ys : List Value) : Option Bool :=
 bif Nat.beq t 62 then eqV2 xs ys else bif Nat.beq t 60 then eqV2 xs ys else bif Nat.beq t 64 then eqC8 xs ys else eqFl t xs ys
theorem eqTab_ok : EqOk Try.prog eqTab := fun t xs ys b h => by
 unfold eqTab at h
 cases h1 : Nat.beq t 62 with
 | true =>
  rw [h1] at h
  rw [Nat.eq_of_beq_eq_true h1]
  refine ⟨guardVec, fun R => ?_⟩
  unfold eqV2 at h
  simp only [cond_true] at h
  split at h <;> first | (cases h; done) | skip
  cases h
  exact eqVec 9998 _ _ _ _ R
 | false =>
 cases h2 : Nat.beq t 60 with
 | true =>
  rw [h1, h2] at h
  rw [Nat.eq_of_beq_eq_true h2]
  refine ⟨guardStamp, fun R => ?_⟩
  unfold eqV2 at h
  simp only [cond_true, cond_false] at h
  split at h <;> first | (cases h; done) | skip
  cases h
  exact eqStamp 9998 _ _ _ _ R
 | false =>
 cases h3 : Nat.beq t 64 with
 | true =>
  rw [h1, h2, h3] at h
  rw [Nat.eq_of_beq_eq_true h3]
  refine ⟨guardCell, fun R => ?_⟩
  unfold eqC8 at h
  simp only [cond_true, cond_false] at h
  split at h <;> first | (cases h; done) | skip
  cases h
  exact eqCell 9997 _ _ _ _ _ _ _ _ _ _ _ _ _ _ _ _ R
 | false =>
  rw [h1, h2, h3] at h
  exact eqFl_ok t xs ys b h
noncomputable def envT (C : Tab) (L : LTab) : Env := ⟨Try.prog, eqTab, C, false, tcTab, L⟩
theorem envT_ok {C : Tab} {L : LTab} (hC : COk Try.prog C) (hL : ∀ l s b ps outs, L l s = some (b, ps, outs) → Wf s ⟨ps, outs, none⟩ ∧ LoopOk (envT C L) b s ps outs) : CodeOk (envT C L) where
 suf f args nx o k x nx' o' ps h := (hC f args nx o k x nx' o' ps h).2
 wide := wideP
 eq := eqTab_ok
 C f args nx o k x nx' o' ps h := (hC f args nx o k x nx' o' ps h).1
 tc := tcTab_ok
 loops := hL
end Go.Proofs.Ytnfmceffbnaanaa
namespace Go.Proofs.Ytnfmceffbnaanaa
open Go.RowKit
def LpOk (L : LTab) : Prop := ∀ l s b ps outs, L l s = some (b, ps, outs) → Wf s ⟨ps, outs, none⟩ ∧ LoopOk (envT C0 L0) b s ps outs
theorem L0_ok : LpOk L0 := fun _ _ _ _ _ h => by cases h
theorem addLp_ok {l0 : Nat} {g : St → Option (Code × List Prop × Outs)} {L : LTab} (hg : ∀ s b ps outs, g s = some (b, ps, outs) → Wf s ⟨ps, outs, none⟩ ∧ LoopOk (envT C0 L0) b s ps outs) (hL : LpOk L) : LpOk (addLp l0 g L) := fun l s b ps outs h => by
 unfold addLp at h
 cases hb : Nat.beq l l0 with
 | true => rw [hb] at h; exact hg s b ps outs h
 | false => rw [hb] at h; exact hL l s b ps outs h
theorem envP_ok {C : Tab} {L : LTab} (hC : COk Try.prog C) (hL : LpOk L) : CodeOk (envT C L) := envT_ok hC hL
theorem rowP_ok {C : Tab} {L : LTab} (hC : COk Try.prog C) (hL : LpOk L) {u : Nat} {b : Code} {S : Shape} {En : Entry} {X : Type} {T : X → St} {unT : St → Option X} {fuel : X → Nat} {next : X → X} {goes : X → Cnd} {psA ps : X → List Prop} {outs : X → Outs} (hS : okL S.nb S.nx1 S.ren = true) (hnb : S.nb ≤ S.nx1)
  (hr : ∀ x, roundE (envT C L) u b S (T x) = some (psA x, outs x, goes x, T (next x))) (hA : ∀ x, (∀ p ∈ ps x, p) → ∀ p ∈ psA x, p) (hu : ∀ s x, unT s = some x → s = T x)
  (hw : ∀ x, Once (outs x) ∧ ∀ t c y, getO t (outs x) = some (c, y) → y.n = (T x).n) (hTn : ∀ x y, (T x).n = (T y).n) : ∀ s b0 qs os, rowL (envT C L) b S En unT fuel next goes ps outs s = some (b0, qs, os) → Wf s ⟨qs, os, none⟩ ∧ LoopOk (envT C0 L0) b0 s qs os :=
 fun _ _ _ _ he => rowL_ok (envP_ok hC hL) hS hnb hr hA hu hw hTn he
def okOuts (n : Nat) : Outs → Bool
 | [] => true
 | (t, _, s) :: r => Nat.beq s.n n && ((match getO t r with | some _ => false | none => true) && okOuts n r)
theorem okOuts_ok {n : Nat} : ∀ {o : Outs}, okOuts n o = true → Once o ∧ ∀ t c y, getO t o = some (c, y) → y.n = n
 | [], _ => ⟨trivial, fun t c y h => by cases h⟩
 | (k, d, s) :: r, h => by
  unfold okOuts at h
  simp only [Bool.and_eq_true] at h
  obtain ⟨h1, h2, h3⟩ := h
  obtain ⟨g1, g2⟩ := okOuts_ok h3
  refine ⟨⟨?_, g1⟩, fun t c y hy => ?_⟩
  ·cases hg : getO k r with
   | none => rfl
   | some x => rw [hg] at h2; cases h2
  ·have hy' : (bif tagB k t then some (d, s) else getO t r) = some (c, y) := hy
   cases hb : tagB k t with
   | true => rw [hb] at hy'; cases hy'; exact Nat.eq_of_beq_eq_true h1
   | false => rw [hb] at hy'; exact g2 t c y hy'
def argT (c : TC) (x : A) : Option (U c × List Prop) := match cellsA x with
 | some cs => dec c cs
 | none => none
def argL (c : TC) : A → Option (List (U c))
 | .sl c' l => match TC.same c' c with
  | some h => some (castL h.down l)
  | none => none
 | .nl => some []
 | .v x => bif isNilV x then some [] else none
 | _ => none
section
variable {F : Nat → Prop} {N : Nm} {nx : Nat} {R : World}
theorem argL_ok {c : TC} {x : A} {l : List (U c)} {v : Value} (he : argL c x = some l) (h : Hv F N nx R x v) : Hv F N nx R (.sl c l) v := by
 unfold argL at he
 split at he <;> first | (cases he; done) | skip
 ·split at he <;> first | (cases he; done) | skip
  rename_i h1 _
  obtain ⟨h1⟩ := h1
  subst h1
  cases he
  exact h
 ·cases he
  obtain ⟨a, e⟩ := h.nl_inv
  exact Hv.sl_nil e
 ·rename_i x
  cases hb : isNilV x with
  | false => rw [hb] at he; cases he
  | true =>
   rw [hb] at he
   cases he
   exact Hv.sl_nil (by rw [h.v_inv, isNilV_ok hb])
theorem hl_agg {c : TC} {d : U c} {vs : List Value} (h : HL F N nx R (enc c d) vs) (ha : c.isAgg = true) : Hv F N nx R (valA c d) (.agg vs.toArray) := by
 unfold valA
 rw [ha]
 exact aggA_ok h
theorem hl_one {c : TC} {d : U c} {vs : List Value} {v : Value} (h : HL F N nx R (enc c d) vs) (ha : c.isAgg = false) (hv : vs[0]? = some v) : Hv F N nx R (valA c d) v := by
 unfold valA
 rw [ha]
 show Hv F N nx R (match enc c d with | x :: _ => x | [] => .dead) v
 generalize enc c d = l at h
 cases l with
 | nil => exact .dead _
 | cons x r =>
  obtain ⟨w, ws, rfl, h1, _⟩ := h.inv
  cases hv
  exact h1
def fitsT (c : TC) : A → Bool
 | .v (.agg _) => c.isAgg
 | .agg _ => c.isAgg
 | .v (.tuple _) => false
 | .v x => !c.isAgg && x.oneCell'
 | .opt _ _ _ => false
 | .tup _ => false
 | .dead => false
 | .it _ _ => false
 | .sq _ => false
 | .dq _ => false
 | .iv _ _ => false
 | .de _ _ _ _ => false
 | .ie _ _ _ _ _ => false
 | .av _ _ _ => false
 | .rv _ => false
 | .vr _ _ _ _ => false
 | _ => !c.isAgg
def argU (c : TC) (x : A) : Option (U c × List Prop) := bif fitsT c x then argT c x else none
theorem argU_ok {c : TC} {x : A} {d : U c} {ps : List Prop} {v : Value} (he : argU c x = some (d, ps)) (hp : ∀ p ∈ ps, p) (h : Hv F N nx R x v) : Hv F N nx R (valA c d) v := by
 unfold argU at he
 cases hf : fitsT c x with
 | false => rw [hf] at he; cases he
 | true =>
  rw [hf] at he
  simp only [cond_true] at he
  unfold argT at he
  split at he <;> first | (cases he; done) | skip
  rename_i cs hcs
  have hd := dec_ok (F := F) (N := N) (nx := nx) (R := R) he hp
  have single : ∀ {y : A}, Hv F N nx R y v → cs = [y] → c.isAgg = false → Hv F N nx R (valA c d) v := fun {y} hy e hc => by
   subst e
   exact hl_one (hd [v] (HL.cons hy HL.nil)) hc rfl
  cases x <;> first | (cases hf; done) | skip
  ·rename_i y
   have hv := h.v_inv
   subst hv
   cases hcs
   have hl : HL F N nx R (toL v.cells.toList) v.cells.toList := HL.toL _
   cases v with
   | agg xs =>
    have hl' : HL F N nx R (toL xs.toList) xs.toList := hl
    have := hl_agg (hd _ hl') hf
    simpa using this
   | tuple xs => cases hf
   | _ =>
    simp only [fitsT, Bool.and_eq_true, Bool.not_eq_true'] at hf
    exact hl_one (hd _ hl) hf.1 rfl
  ·cases hcs
   exact single h rfl (by simpa [fitsT] using hf)
  ·cases hcs
   exact single h rfl (by simpa [fitsT] using hf)
  ·cases hcs
   exact single h rfl (by simpa [fitsT] using hf)
  ·cases hcs
   exact single h rfl (by simpa [fitsT] using hf)
  ·cases hcs
   exact single h rfl (by simpa [fitsT] using hf)
  ·cases hcs
   exact single h rfl (by simpa [fitsT] using hf)
  ·cases hcs
   exact single h rfl (by simpa [fitsT] using hf)
  ·cases hcs
   exact single h rfl (by simpa [fitsT] using hf)
  ·cases hcs
   exact single h rfl (by simpa [fitsT] using hf)
  ·cases hcs
   obtain ⟨vs, rfl, h2⟩ := h.agg_inv
   exact hl_agg (hd _ h2) hf
end
theorem freeL_nil : freeL [] = true := by unfold freeL; rfl
theorem freeL_cons {x : A} {r : List A} (h : x.free = true) (k : freeL r = true) : freeL (x :: r) = true := by unfold freeL; rw [h, k]; rfl
theorem valA_free (c : TC) (d : U c) : (valA c d).free = true := by
 have hfr : ∀ l : List A, (∀ x ∈ l, x.free = true) → freeL l = true := fun l => by
  induction l with
  | nil => intro _; unfold freeL; rfl
  | cons x r ih => intro h; unfold freeL; rw [h x (List.mem_cons_self ..), ih fun y hy => h y (List.mem_cons_of_mem _ hy)]; rfl
 have h := enc_free c d
 unfold valA
 cases c.isAgg with
 | true =>
  show (aggA (enc c d)).free = true
  unfold aggA
  split
  ·unfold A.free; rfl
  ·unfold A.free; exact hfr _ h
 | false =>
  show A.free (match enc c d with | x :: _ => x | [] => .dead) = true
  have hl := enc_length c d
  have hs : 0 < size c := by cases c <;> decide
  generalize enc c d = l at h hl
  cases l with
  | nil => rw [← hl] at hs; cases hs
  | cons x r => exact h x (List.mem_cons_self ..)
theorem callOk_args {P : Program} {f : FuncId} {args args' : List A} {nx k nx' : Nat} {o o' : Objs} {x : A} (h : CallOk P f args' nx o k x nx' o') (ha : ∀ (F : Nat → Prop) (N : Nm) (R : World) (vs : List Value), HL F N nx R args vs → HL F N nx R args' vs) : CallOk P f args nx o k x nx' o' :=
 fun F N R vs hh hl => h F N R vs hh (ha F N R vs hl)
inductive Kd where
 | l (c : TC)
 | t (c : TC)
 | a (c : TC) (n : Nat)
def Fn (X : Type) : List Kd → Type
 | [] => X
 | .l c :: r => List (U c) → Fn X r
 | .t c :: r => U c → Fn X r
 | .a c _ :: r => List (U c) → Fn X r
abbrev FnP := Fn (List Prop)
def allP (ps : List Prop) : Prop := ∀ p ∈ ps, p
def addQ (q : List Prop) : Option CRes → Option CRes
 | some (k, x, nx, o, p) => some (k, x, nx, o, q ++ p)
 | none => none
def rowG (m nx : Nat) (ob : Objs) : (ks : List Kd) → Fn A ks → Fn Objs ks → FnP ks → List A → Option CRes
 | [], r, o, ps, [] => some (1, A.pk (shiftR nx) r, nx + m, shiftO nx o ++ ob, ps)
 | .l c :: ks, r, o, ps, y :: ys => match argL c y with
  | some a => rowG m nx ob ks (r a) (o a) (ps a) ys
  | none => none
 | .t c :: ks, r, o, ps, y :: ys => match argU c y with
  | some (a, q) => addQ q (rowG m nx ob ks (r a) (o a) (ps a) ys)
  | none => none
 | .a c n :: ks, r, o, ps, y :: ys => match argA c n y with
  | some (a, q) => addQ q (rowG m nx ob ks (r a) (o a) (ps a) ys)
  | none => none
 | _, _, _, _, _ => none
def rowK (ks : List Kd) (m : Nat) (r : Fn A ks) (o : Fn Objs ks) (ps : FnP ks) : List A → Nat → Objs → Option CRes := fun args nx ob => rowG m nx ob ks r o ps args
def OkG (P : Program) (f : FuncId) (m : Nat) : (ks : List Kd) → List A → Fn A ks → Fn Objs ks → FnP ks → Prop
 | [], pre, r, o, ps => allP ps → CallOk P f pre 0 [] 1 r m o
 | .l c :: ks, pre, r, o, ps => ∀ a, OkG P f m ks (pre ++ [.sl c a]) (r a) (o a) (ps a)
 | .t c :: ks, pre, r, o, ps => ∀ a, OkG P f m ks (pre ++ [valA c a]) (r a) (o a) (ps a)
 | .a c n :: ks, pre, r, o, ps => ∀ a, OkG P f m ks (pre ++ [.av c n a]) (r a) (o a) (ps a)
theorem freeL_app : ∀ {a b : List A}, freeL a = true → freeL b = true → freeL (a ++ b) = true
 | [], _, _, h => h
 | x :: a, b, h, g => by
  unfold freeL at h
  rw [Bool.and_eq_true] at h
  exact freeL_cons h.1 (freeL_app h.2 g)
theorem rowG_ok {P : Program} {f : FuncId} {m nx : Nat} {ob : Objs} : ∀ (ks : List Kd) (pre ys : List A) (r : Fn A ks) (o : Fn Objs ks) (ps : FnP ks), freeL pre = true → OkG P f m ks pre r o ps → ∀ {k x nx' o' qs}, rowG m nx ob ks r o ps ys = some (k, x, nx', o', qs) →
  (∃ d, o' = d ++ ob) ∧ ∃ zs, freeL zs = true ∧ ((∀ p ∈ qs, p) → (∀ (F : Nat → Prop) (N : Nm) (R : World) (vs : List Value), HL F N nx R ys vs → HL F N nx R zs vs) ∧ CallOk P f (pre ++ zs) nx ob k x nx' o') := by
 intro ks
 induction ks with
 | nil =>
  intro pre ys r o ps hf hok k x nx' o' qs he
  cases ys with
  | cons y ys => cases he
  | nil =>
   cases he
   exact ⟨⟨_, rfl⟩, [], freeL_nil, fun hp => ⟨fun _ _ _ _ h => h, by rw [List.append_nil]; exact callOk_shift (hok hp) (Nat.le_refl _) hf nx ob⟩⟩
 | cons kd ks ih =>
  intro pre ys r o ps hf hok k x nx' o' qs he
  cases ys with
  | nil => cases kd <;> cases he
  | cons y ys =>
   cases kd with
   | l c =>
    unfold rowG at he
    split at he <;> first | (cases he; done) | skip
    rename_i a ha
    obtain ⟨h1, zs, h2, h3⟩ := ih (pre ++ [.sl c a]) ys (r a) (o a) (ps a) (freeL_app hf (freeL_cons (by unfold A.free; rfl) freeL_nil)) (hok a) he
    refine ⟨h1, .sl c a :: zs, freeL_cons (by unfold A.free; rfl) h2, fun hp => ⟨fun F N R vs hl => ?_, by have := (h3 hp).2; rwa [List.append_assoc] at this⟩⟩
    obtain ⟨v, w, rfl, q1, q2⟩ := hl.inv
    exact HL.cons (argL_ok ha q1) ((h3 hp).1 F N R w q2)
   | t c =>
    unfold rowG at he
    split at he <;> first | (cases he; done) | skip
    rename_i a q ha
    unfold addQ at he
    split at he <;> first | (cases he; done) | skip
    rename_i k1 x1 nx1 o1 p1 he1
    cases he
    obtain ⟨h1, zs, h2, h3⟩ := ih (pre ++ [valA c a]) ys (r a) (o a) (ps a) (freeL_app hf (freeL_cons (valA_free _ _) freeL_nil)) (hok a) he1
    refine ⟨h1, valA c a :: zs, freeL_cons (valA_free _ _) h2, fun hp => ?_⟩
    have hp1 := fun p hm => hp p (List.mem_append.2 (.inl hm))
    have hp2 := h3 fun p hm => hp p (List.mem_append.2 (.inr hm))
    refine ⟨fun F N R vs hl => ?_, by have := hp2.2; rwa [List.append_assoc] at this⟩
    obtain ⟨v, w, rfl, q1, q2⟩ := hl.inv
    exact HL.cons (argU_ok ha hp1 q1) (hp2.1 F N R w q2)
   | a c n =>
    unfold rowG at he
    split at he <;> first | (cases he; done) | skip
    rename_i a q ha
    unfold addQ at he
    split at he <;> first | (cases he; done) | skip
    rename_i k1 x1 nx1 o1 p1 he1
    cases he
    obtain ⟨h1, zs, h2, h3⟩ := ih (pre ++ [.av c n a]) ys (r a) (o a) (ps a) (freeL_app hf (freeL_cons (by unfold A.free; rfl) freeL_nil)) (hok a) he1
    refine ⟨h1, .av c n a :: zs, freeL_cons (by unfold A.free; rfl) h2, fun hp => ?_⟩
    have hp1 := fun p hm => hp p (List.mem_append.2 (.inl hm))
    have hp2 := h3 fun p hm => hp p (List.mem_append.2 (.inr hm))
    refine ⟨fun F N R vs hl => ?_, by have := hp2.2; rwa [List.append_assoc] at this⟩
    obtain ⟨v, w, rfl, q1, q2⟩ := hl.inv
    exact HL.cons (argA_ok ha hp1 q1) (hp2.1 F N R w q2)
theorem rowK_ok {P : Program} {f : FuncId} {ks : List Kd} {m : Nat} {r : Fn A ks} {o : Fn Objs ks} {ps : FnP ks} (h : OkG P f m ks [] r o ps) : TOk P f (rowK ks m r o ps) := fun args nx ob k x nx' o' qs he => by
 obtain ⟨h1, zs, _, h3⟩ := rowG_ok ks [] args r o ps freeL_nil h he
 exact ⟨fun hp => callOk_args (h3 hp).2 (h3 hp).1, h1⟩
theorem HW.free {F : Nat → Prop} {N N' : Nm} {nx nx' : Nat} {R : World} : ∀ {xs : List A} {us : List Value}, freeL xs = true → HW F N nx R xs us → HW F N' nx' R xs us
 | [], _, _, h => h
 | x :: r, _, hf, ⟨v, t, h1, h2, h3, h4⟩ => by unfold freeL at hf; rw [Bool.and_eq_true] at hf; exact ⟨v, t, h1, h2.free hf.1, h3, HW.free hf.2 h4⟩
end Go.Proofs.Ytnfmceffbnaanaa
namespace Go.Proofs.Ytnfmceffbnaanaa
open Go.RowKit
noncomputable def Cso1_1 := addC 37 (inl (envT C0 L0) 20 37) C0
theorem Cso1_1_ok : COk Try.prog Cso1_1 := addC_ok (inl_ok (envP_ok C0_ok L0_ok) 20 37) C0_ok
noncomputable def Cso1_2 := addC 38 (inl (envT Cso1_1 L0) 20 38) Cso1_1
theorem Cso1_2_ok : COk Try.prog Cso1_2 := addC_ok (inl_ok (envP_ok Cso1_1_ok L0_ok) 20 38) Cso1_1_ok
abbrev sr1_l0_X : Type := Int × Int × (List TBlock) × Int × ByteArray
def sr1_l0_T (x : sr1_l0_X) : St := ⟨26, 2, [(1, .fn 37 [] [.own 0 0, .own 1 0]), (5, .v (.int .i64 x.1)), (6, .v (.int .i64 x.2.1))], [(0, some (.box 54 [.ref [.sl .block x.2.2.1, .v (.int .i64 x.2.2.2.1)]])), (1, some (.box 9 [.v (.string x.2.2.2.2)]))]⟩
def sr1_l0_un : St → Option sr1_l0_X
 | ⟨26, 2, [(1, .fn 37 [] [.own 0 0, .own 1 0]), (5, .v (.int .i64 z0)), (6, .v (.int .i64 z1))], [(0, some (.box 54 [.ref [.sl .block z2, .v (.int .i64 z3)]])), (1, some (.box 9 [.v (.string z4)]))]⟩ => some (z0, z1, z2, z3, z4)
 | _ => none
theorem sr1_l0_unok : ∀ s x, sr1_l0_un s = some x → s = sr1_l0_T x := fun s x h => by
 unfold sr1_l0_un at h
 split at h
 ·cases h; rfl
 ·cases h
def sr1_l0_S : Shape := ⟨2, 2, [1, 5, 6], [], [(0, 0), (1, 1)], [0, 1], [5], [0, 1]⟩
def sr1_l0_E : Entry := ⟨[], [(0, 0), (1, 1)], [1, 5, 6], [0, 1]⟩
def sr1_l0_f_k1 (a0 : Int) (a1 : Int) (_a2 : List TBlock) (_a3 : Int) (_a4 : ByteArray) : Int := IntKind.i64.wrap ((IntKind.u64.wrap (IntKind.i64.wrap (a0 + a1))).fdiv (2 : Int))
def sr1_l0_f_k2 (a0 : Int) (a1 : Int) (a2 : List TBlock) (a3 : Int) (a4 : ByteArray) : Int := IntKind.i64.wrap ((↑(a2.getD (sr1_l0_f_k1 a0 a1 a2 a3 a4).toNat (dflt TC.block)).1.length : Int) - (1 : Int))
def sr1_l0_f_k0 (a0 : Int) (a1 : Int) (a2 : List TBlock) (a3 : Int) (a4 : ByteArray) : Bool := !!Op.bytesLess (ByteArray.toList ((a2.getD (sr1_l0_f_k1 a0 a1 a2 a3 a4).toNat (dflt TC.block)).1.getD (sr1_l0_f_k2 a0 a1 a2 a3 a4).toNat (dflt TC.str))) a4.toList
def sr1_l0_f_0 (a0 : Int) (a1 : Int) (a2 : List TBlock) (a3 : Int) (a4 : ByteArray) : Int := bif (sr1_l0_f_k0 a0 a1 a2 a3 a4) then IntKind.i64.wrap ((sr1_l0_f_k1 a0 a1 a2 a3 a4) + (1 : Int)) else a0
def sr1_l0_f_1 (a0 : Int) (a1 : Int) (a2 : List TBlock) (a3 : Int) (a4 : ByteArray) : Int := bif (sr1_l0_f_k0 a0 a1 a2 a3 a4) then a1 else (sr1_l0_f_k1 a0 a1 a2 a3 a4)
def sr1_l0_next (x : sr1_l0_X) : sr1_l0_X := (sr1_l0_f_0 x.1 x.2.1 x.2.2.1 x.2.2.2.1 x.2.2.2.2, sr1_l0_f_1 x.1 x.2.1 x.2.2.1 x.2.2.2.1 x.2.2.2.2, x.2.2.1, x.2.2.2.1, x.2.2.2.2)
def sr1_l0_goes (x : sr1_l0_X) : Cnd := some (!!decide (x.1 < x.2.1))
def sr1_l0_psA (x : sr1_l0_X) : List Prop := [((!!decide (x.1 < x.2.1)) = true → (0 : Int) ≤ (sr1_l0_f_k1 x.1 x.2.1 x.2.2.1 x.2.2.2.1 x.2.2.2.2) ∧ (sr1_l0_f_k1 x.1 x.2.1 x.2.2.1 x.2.2.2.1 x.2.2.2.2) < (↑x.2.2.1.length : Int)), ((!!decide (x.1 < x.2.1)) = true → (0 : Int) ≤ (sr1_l0_f_k2 x.1 x.2.1 x.2.2.1 x.2.2.2.1 x.2.2.2.2) ∧ (sr1_l0_f_k2 x.1 x.2.1 x.2.2.1 x.2.2.2.1 x.2.2.2.2) < (↑(x.2.2.1.getD (sr1_l0_f_k1 x.1 x.2.1 x.2.2.1 x.2.2.2.1 x.2.2.2.2).toNat (dflt TC.block)).1.length : Int))]
abbrev sr1_l0_ps : sr1_l0_X → List Prop := sr1_l0_psA
def sr1_l0_outs (x : sr1_l0_X) : Outs := [(some 0, some (!decide (x.1 < x.2.1)), ⟨26, 2, [(5, .v (.int .i64 x.1))], [(0, some (.box 54 [.ref [.sl .block x.2.2.1, .v (.int .i64 x.2.2.2.1)]])), (1, some (.box 9 [.v (.string x.2.2.2.2)]))]⟩)]
def sr1_l0_fuel (x : sr1_l0_X) : Nat := (x.2.1 - x.1).toNat
def sr1_l0_run (x : sr1_l0_X) : sr1_l0_X := iterX sr1_l0_next sr1_l0_goes (sr1_l0_fuel x) x
theorem sr1_l0_ev (a0 : Int) (a1 : Int) (a2 : List TBlock) (a3 : Int) (a4 : ByteArray) : roundE (envT Cso1_2 L0) 9 (loopAt Try.prog 36 0) sr1_l0_S (sr1_l0_T (a0, a1, a2, a3, a4)) = some (sr1_l0_psA (a0, a1, a2, a3, a4), sr1_l0_outs (a0, a1, a2, a3, a4), sr1_l0_goes (a0, a1, a2, a3, a4), sr1_l0_T (sr1_l0_next (a0, a1, a2, a3, a4))) := by kernel_rfl
theorem sr1_l0_hA (a0 : Int) (a1 : Int) (a2 : List TBlock) (a3 : Int) (a4 : ByteArray) (hp : ∀ p ∈ sr1_l0_ps (a0, a1, a2, a3, a4), p) : ∀ p ∈ sr1_l0_psA (a0, a1, a2, a3, a4), p := hp
noncomputable def sr1_l0_row := rowL (envT Cso1_2 L0) (loopAt Try.prog 36 0) sr1_l0_S sr1_l0_E sr1_l0_un sr1_l0_fuel sr1_l0_next sr1_l0_goes sr1_l0_ps sr1_l0_outs
theorem sr1_l0_rok : ∀ s b ps outs, sr1_l0_row s = some (b, ps, outs) → Wf s ⟨ps, outs, none⟩ ∧ LoopOk (envT C0 L0) b s ps outs :=
 rowP_ok (T := sr1_l0_T) Cso1_2_ok L0_ok (u := 9) (by kernel_rfl) (by decide) (fun ⟨a0, a1, a2, a3, a4⟩ => sr1_l0_ev a0 a1 a2 a3 a4) (fun ⟨a0, a1, a2, a3, a4⟩ => sr1_l0_hA a0 a1 a2 a3 a4) sr1_l0_unok (fun _ => okOuts_ok (n := 26) rfl) fun _ _ => rfl
noncomputable def sr1_l0_L := addLp 0 sr1_l0_row L0
theorem sr1_l0_Lok : LpOk sr1_l0_L := addLp_ok sr1_l0_rok L0_ok
abbrev sr2_l0_X : Type := Int × Int × (List ByteArray) × ByteArray
def sr2_l0_T (x : sr2_l0_X) : St := ⟨26, 3, [(1, .fn 38 [] [.own 2 0, .own 1 0]), (5, .v (.int .i64 x.1)), (6, .v (.int .i64 x.2.1))], [(2, some (.box 40 [.sl .str x.2.2.1])), (1, some (.box 9 [.v (.string x.2.2.2)]))]⟩
def sr2_l0_un : St → Option sr2_l0_X
 | ⟨26, 3, [(1, .fn 38 [] [.own 2 0, .own 1 0]), (5, .v (.int .i64 z0)), (6, .v (.int .i64 z1))], [(2, some (.box 40 [.sl .str z2])), (1, some (.box 9 [.v (.string z3)]))]⟩ => some (z0, z1, z2, z3)
 | _ => none
theorem sr2_l0_unok : ∀ s x, sr2_l0_un s = some x → s = sr2_l0_T x := fun s x h => by
 unfold sr2_l0_un at h
 split at h
 ·cases h; rfl
 ·cases h
def sr2_l0_S : Shape := ⟨3, 3, [1, 5, 6], [], [(2, 2), (1, 1)], [2, 1], [5], [2, 1]⟩
def sr2_l0_E : Entry := ⟨[], [(2, 2), (1, 1)], [1, 5, 6], [2, 1]⟩
def sr2_l0_f_k1 (a0 : Int) (a1 : Int) (_a2 : List ByteArray) (_a3 : ByteArray) : Int := IntKind.i64.wrap ((IntKind.u64.wrap (IntKind.i64.wrap (a0 + a1))).fdiv (2 : Int))
def sr2_l0_f_k0 (a0 : Int) (a1 : Int) (a2 : List ByteArray) (a3 : ByteArray) : Bool := !!Op.bytesLess (ByteArray.toList (a2.getD (sr2_l0_f_k1 a0 a1 a2 a3).toNat (dflt TC.str))) a3.toList
def sr2_l0_f_0 (a0 : Int) (a1 : Int) (a2 : List ByteArray) (a3 : ByteArray) : Int := bif (sr2_l0_f_k0 a0 a1 a2 a3) then IntKind.i64.wrap ((sr2_l0_f_k1 a0 a1 a2 a3) + (1 : Int)) else a0
def sr2_l0_f_1 (a0 : Int) (a1 : Int) (a2 : List ByteArray) (a3 : ByteArray) : Int := bif (sr2_l0_f_k0 a0 a1 a2 a3) then a1 else (sr2_l0_f_k1 a0 a1 a2 a3)
def sr2_l0_next (x : sr2_l0_X) : sr2_l0_X := (sr2_l0_f_0 x.1 x.2.1 x.2.2.1 x.2.2.2, sr2_l0_f_1 x.1 x.2.1 x.2.2.1 x.2.2.2, x.2.2.1, x.2.2.2)
def sr2_l0_goes (x : sr2_l0_X) : Cnd := some (!!decide (x.1 < x.2.1))
def sr2_l0_psA (x : sr2_l0_X) : List Prop := [((!!decide (x.1 < x.2.1)) = true → (0 : Int) ≤ (sr2_l0_f_k1 x.1 x.2.1 x.2.2.1 x.2.2.2) ∧ (sr2_l0_f_k1 x.1 x.2.1 x.2.2.1 x.2.2.2) < (↑x.2.2.1.length : Int))]
abbrev sr2_l0_ps : sr2_l0_X → List Prop := sr2_l0_psA
def sr2_l0_outs (x : sr2_l0_X) : Outs := [(some 0, some (!decide (x.1 < x.2.1)), ⟨26, 3, [(5, .v (.int .i64 x.1))], [(2, some (.box 40 [.sl .str x.2.2.1])), (1, some (.box 9 [.v (.string x.2.2.2)]))]⟩)]
def sr2_l0_fuel (x : sr2_l0_X) : Nat := (x.2.1 - x.1).toNat
def sr2_l0_run (x : sr2_l0_X) : sr2_l0_X := iterX sr2_l0_next sr2_l0_goes (sr2_l0_fuel x) x
theorem sr2_l0_ev (a0 : Int) (a1 : Int) (a2 : List ByteArray) (a3 : ByteArray) : roundE (envT Cso1_2 L0) 9 (loopAt Try.prog 36 0) sr2_l0_S (sr2_l0_T (a0, a1, a2, a3)) = some (sr2_l0_psA (a0, a1, a2, a3), sr2_l0_outs (a0, a1, a2, a3), sr2_l0_goes (a0, a1, a2, a3), sr2_l0_T (sr2_l0_next (a0, a1, a2, a3))) := by kernel_rfl
theorem sr2_l0_hA (a0 : Int) (a1 : Int) (a2 : List ByteArray) (a3 : ByteArray) (hp : ∀ p ∈ sr2_l0_ps (a0, a1, a2, a3), p) : ∀ p ∈ sr2_l0_psA (a0, a1, a2, a3), p := hp
noncomputable def sr2_l0_row := rowL (envT Cso1_2 L0) (loopAt Try.prog 36 0) sr2_l0_S sr2_l0_E sr2_l0_un sr2_l0_fuel sr2_l0_next sr2_l0_goes sr2_l0_ps sr2_l0_outs
theorem sr2_l0_rok : ∀ s b ps outs, sr2_l0_row s = some (b, ps, outs) → Wf s ⟨ps, outs, none⟩ ∧ LoopOk (envT C0 L0) b s ps outs :=
 rowP_ok (T := sr2_l0_T) Cso1_2_ok L0_ok (u := 9) (by kernel_rfl) (by decide) (fun ⟨a0, a1, a2, a3⟩ => sr2_l0_ev a0 a1 a2 a3) (fun ⟨a0, a1, a2, a3⟩ => sr2_l0_hA a0 a1 a2 a3) sr2_l0_unok (fun _ => okOuts_ok (n := 26) rfl) fun _ _ => rfl
noncomputable def sr2_l0_L := addLp 0 sr2_l0_row L0
theorem sr2_l0_Lok : LpOk sr2_l0_L := addLp_ok sr2_l0_rok L0_ok
def orLp (L L' : LTab) : LTab := fun l s => match L l s with
 | some x => some x
 | none => L' l s
theorem orLp_ok {L L' : LTab} (h : LpOk L) (h' : LpOk L') : LpOk (orLp L L') := fun l s b ps outs he => by
 unfold orLp at he
 split at he
 ·rename_i x hx
  cases he
  exact h l s _ _ _ hx
 ·exact h' l s b ps outs he
noncomputable def srch_L : LTab := orLp sr1_l0_L sr2_l0_L
theorem srch_Lok : LpOk srch_L := orLp_ok sr1_l0_Lok sr2_l0_Lok
noncomputable def Cso1_3 := addC 36 (inl (envT Cso1_2 srch_L) 20 36) Cso1_2
theorem Cso1_3_ok : COk Try.prog Cso1_3 := addC_ok (inl_ok (envP_ok Cso1_2_ok srch_Lok) 20 36) Cso1_2_ok
def at1_k3 (a0 : List TBlock) (a1 : Int) (a2 : ByteArray) : Int := (sr1_l0_run ((0 : Int), (↑a0.length : Int), a0, a1, a2)).fst
def at1_k2 (a0 : List TBlock) (a1 : Int) (a2 : ByteArray) : Int := (sr2_l0_run ((0 : Int), (↑((sr1_l0_run ((0 : Int), (↑a0.length : Int), a0, a1, a2)).snd.snd.fst.getD (at1_k3 a0 a1 a2).toNat (dflt TC.block)).1.length : Int), ((sr1_l0_run ((0 : Int), (↑a0.length : Int), a0, a1, a2)).snd.snd.fst.getD (at1_k3 a0 a1 a2).toNat (dflt TC.block)).1, (sr1_l0_run ((0 : Int), (↑a0.length : Int), a0, a1, a2)).snd.snd.snd.snd)).fst
def at1_k1 (a0 : List TBlock) (a1 : Int) (a2 : ByteArray) : List ByteArray := (sr2_l0_run ((0 : Int), (↑((sr1_l0_run ((0 : Int), (↑a0.length : Int), a0, a1, a2)).snd.snd.fst.getD (at1_k3 a0 a1 a2).toNat (dflt TC.block)).1.length : Int), ((sr1_l0_run ((0 : Int), (↑a0.length : Int), a0, a1, a2)).snd.snd.fst.getD (at1_k3 a0 a1 a2).toNat (dflt TC.block)).1, (sr1_l0_run ((0 : Int), (↑a0.length : Int), a0, a1, a2)).snd.snd.snd.snd)).snd.snd.fst
def at1_k0 (a0 : List TBlock) (a1 : Int) (a2 : ByteArray) : Bool := (at1_k3 a0 a1 a2) == (↑(sr1_l0_run ((0 : Int), (↑a0.length : Int), a0, a1, a2)).snd.snd.fst.length : Int)
def at1_0 (a0 : List TBlock) (a1 : Int) (a2 : ByteArray) : Int := bif (at1_k0 a0 a1 a2) then (at1_k3 a0 a1 a2) else (at1_k3 a0 a1 a2)
def at1_1 (a0 : List TBlock) (a1 : Int) (a2 : ByteArray) : Int := bif (at1_k0 a0 a1 a2) then (0 : Int) else (at1_k2 a0 a1 a2)
def at1_2 (a0 : List TBlock) (a1 : Int) (a2 : ByteArray) : Bool := bif (at1_k0 a0 a1 a2) then false else ByteArray.toList ((at1_k1 a0 a1 a2).getD (at1_k2 a0 a1 a2).toNat (dflt TC.str)) == (sr2_l0_run ((0 : Int), (↑((sr1_l0_run ((0 : Int), (↑a0.length : Int), a0, a1, a2)).snd.snd.fst.getD (at1_k3 a0 a1 a2).toNat (dflt TC.block)).1.length : Int), ((sr1_l0_run ((0 : Int), (↑a0.length : Int), a0, a1, a2)).snd.snd.fst.getD (at1_k3 a0 a1 a2).toNat (dflt TC.block)).1, (sr1_l0_run ((0 : Int), (↑a0.length : Int), a0, a1, a2)).snd.snd.snd.snd)).snd.snd.snd.toList
def at1_r (a0 : List TBlock) (a1 : Int) (a2 : ByteArray) : A := .v (.tuple ⟨[.int .i64 (at1_0 a0 a1 a2), .int .i64 (at1_1 a0 a1 a2), .bool (at1_2 a0 a1 a2)]⟩)
def at1_o (_a0 : List TBlock) (_a1 : Int) (_a2 : ByteArray) : Objs := []
def at1_ps (a0 : List TBlock) (a1 : Int) (a2 : ByteArray) : List Prop := [(needX sr1_l0_next sr1_l0_goes sr1_l0_ps (sr1_l0_fuel ((0 : Int), (↑a0.length : Int), a0, a1, a2)) ((0 : Int), (↑a0.length : Int), a0, a1, a2)), ((!(at1_k0 a0 a1 a2)) = true → (0 : Int) ≤ (at1_k3 a0 a1 a2) ∧ (at1_k3 a0 a1 a2) < (↑(sr1_l0_run ((0 : Int), (↑a0.length : Int), a0, a1, a2)).snd.snd.fst.length : Int)), ((!(at1_k0 a0 a1 a2)) = true → needX sr2_l0_next sr2_l0_goes sr2_l0_ps (sr2_l0_fuel ((0 : Int), (↑((sr1_l0_run ((0 : Int), (↑a0.length : Int), a0, a1, a2)).snd.snd.fst.getD (at1_k3 a0 a1 a2).toNat (dflt TC.block)).1.length : Int), ((sr1_l0_run ((0 : Int), (↑a0.length : Int), a0, a1, a2)).snd.snd.fst.getD (at1_k3 a0 a1 a2).toNat (dflt TC.block)).1, (sr1_l0_run ((0 : Int), (↑a0.length : Int), a0, a1, a2)).snd.snd.snd.snd)) ((0 : Int), (↑((sr1_l0_run ((0 : Int), (↑a0.length : Int), a0, a1, a2)).snd.snd.fst.getD (at1_k3 a0 a1 a2).toNat (dflt TC.block)).1.length : Int), ((sr1_l0_run ((0 : Int), (↑a0.length : Int), a0, a1, a2)).snd.snd.fst.getD (at1_k3 a0 a1 a2).toNat (dflt TC.block)).1, (sr1_l0_run ((0 : Int), (↑a0.length : Int), a0, a1, a2)).snd.snd.snd.snd)), ((!(at1_k0 a0 a1 a2)) = true → (0 : Int) ≤ (at1_k2 a0 a1 a2) ∧ (at1_k2 a0 a1 a2) < (↑(at1_k1 a0 a1 a2).length : Int))]
theorem at1_ev (a0 : List TBlock) (a1 : Int) (a2 : ByteArray) : evF (envT Cso1_3 L0) 9 30 [.ref [.sl .block a0, .v (.int .i64 a1)], .v (.string a2)] 0 [] = some (1, at1_r a0 a1 a2, 0, at1_o a0 a1 a2, [(loopAt Try.prog (36 : FuncId) (0 : Nat) = loopAt Try.prog (36 : FuncId) (0 : Nat)), (needX sr1_l0_next sr1_l0_goes sr1_l0_ps (sr1_l0_fuel ((0 : Int), (↑a0.length : Int), a0, a1, a2)) ((0 : Int), (↑a0.length : Int), a0, a1, a2)), ((!(at1_k0 a0 a1 a2)) = true → (0 : Int) ≤ (at1_k3 a0 a1 a2) ∧ (at1_k3 a0 a1 a2) < (↑(sr1_l0_run ((0 : Int), (↑a0.length : Int), a0, a1, a2)).snd.snd.fst.length : Int)), ((!(at1_k0 a0 a1 a2)) = true → loopAt Try.prog (36 : FuncId) (0 : Nat) = loopAt Try.prog (36 : FuncId) (0 : Nat)), ((!(at1_k0 a0 a1 a2)) = true → needX sr2_l0_next sr2_l0_goes sr2_l0_ps (sr2_l0_fuel ((0 : Int), (↑((sr1_l0_run ((0 : Int), (↑a0.length : Int), a0, a1, a2)).snd.snd.fst.getD (at1_k3 a0 a1 a2).toNat (dflt TC.block)).1.length : Int), ((sr1_l0_run ((0 : Int), (↑a0.length : Int), a0, a1, a2)).snd.snd.fst.getD (at1_k3 a0 a1 a2).toNat (dflt TC.block)).1, (sr1_l0_run ((0 : Int), (↑a0.length : Int), a0, a1, a2)).snd.snd.snd.snd)) ((0 : Int), (↑((sr1_l0_run ((0 : Int), (↑a0.length : Int), a0, a1, a2)).snd.snd.fst.getD (at1_k3 a0 a1 a2).toNat (dflt TC.block)).1.length : Int), ((sr1_l0_run ((0 : Int), (↑a0.length : Int), a0, a1, a2)).snd.snd.fst.getD (at1_k3 a0 a1 a2).toNat (dflt TC.block)).1, (sr1_l0_run ((0 : Int), (↑a0.length : Int), a0, a1, a2)).snd.snd.snd.snd)), ((!(at1_k0 a0 a1 a2)) = true → (0 : Int) ≤ (at1_k2 a0 a1 a2) ∧ (at1_k2 a0 a1 a2) < (↑(at1_k1 a0 a1 a2).length : Int))]) := by kernel_rfl
theorem at1_c (a0 : List TBlock) (a1 : Int) (a2 : ByteArray) (hp : ∀ p ∈ at1_ps a0 a1 a2, p) : CallOk Try.prog 30 [.ref [.sl .block a0, .v (.int .i64 a1)], .v (.string a2)] 0 [] 1 (at1_r a0 a1 a2) 0 (at1_o a0 a1 a2) := by
 have n1 := N0 hp
 have n2 := N0 (N1 hp)
 have n3 : ((!(at1_k0 a0 a1 a2)) = true → loopAt Try.prog (36 : FuncId) (0 : Nat) = loopAt Try.prog (36 : FuncId) (0 : Nat)) := by intros; rfl
 have n4 := N0 (N1 (N1 hp))
 have n5 := N0 (N1 (N1 (N1 hp)))
 exact evF_ok (envP_ok Cso1_3_ok L0_ok) (at1_ev a0 a1 a2) (needs_cons rfl (needs_cons n1 (needs_cons n2 (needs_cons n3 (needs_cons n4 (needs_cons n5 needs_nil))))))
end Go.Proofs.Ytnfmceffbnaanaa
namespace Go.Proofs.Ytnfmceffbnaanaa
open Go.RowKit
def wfInt (k : IntKind) (n : Int) : Prop := (Lit.int k n).wf = true
def WfS (x : TStamp) : Prop := wfInt .i64 x.n ∧ wfInt .i64 x.site
def WfV (x : TVec) : Prop := wfInt .i64 x.a ∧ wfInt .i64 x.b
def WfCell (x : TCell) : Prop := WfS x.stamp ∧ WfV x.vec ∧ True ∧ x.value.size ≤ maxLen ∧ WfV x.dead
def WfRow (x : TRow) : Prop := x.key.size ≤ maxLen ∧ (x.cells.length ≤ maxLen ∧ ∀ y ∈ x.cells, WfCell y)
def WfWrite (x : TWrite) : Prop := x.key.size ≤ maxLen ∧ wfInt .i64 x.group ∧ True ∧ x.value.size ≤ maxLen
def WfField (x : TField) : Prop := wfInt .i64 x.group ∧ x.value.size ≤ maxLen
def Wfd : (c : TC) → U c → Prop
 | .i64, n => wfInt .i64 n
 | .u32, n => wfInt .u32 n
 | .str, s => s.size ≤ maxLen
 | .vec, x => WfV x
 | .stamp, x => WfS x
 | .cell, x => WfCell x
 | .group, x => x.name.size ≤ maxLen ∧ wfInt .i64 x.policy
 | .write, x => WfWrite x
 | .row, x => WfRow x
 | .change, x => wfInt .i64 x.site ∧ wfInt .i64 x.seq ∧ WfS x.stamp ∧ WfV x.vec ∧ (x.writes.length ≤ maxLen ∧ ∀ y ∈ x.writes, WfWrite y)
 | .field, x => WfField x
 | .view, x => x.key.size ≤ maxLen ∧ (x.fields.length ≤ maxLen ∧ ∀ y ∈ x.fields, WfField y)
 | .told, x => wfInt .i64 x.ack ∧ wfInt .i64 x.own ∧ wfInt .i64 x.come
 | .act, x => wfInt .i64 x.kind ∧ WfRow x.row ∧ x.til.size ≤ maxLen ∧ wfInt .i64 x.n
 | .front, x => wfInt .i64 x.site ∧ wfInt .i64 x.acked ∧ wfInt .i64 x.stable ∧ wfInt .i64 x.wait ∧ wfInt .i64 x.til
 | .ask, x => WfS x.stamp ∧ WfV x.vec ∧ True ∧ x.value.size ≤ maxLen
 | .two, x => WfRow x.row ∧ wfInt .i64 x.group ∧ WfCell x.cell
 | .note, x => x.name.size ≤ maxLen ∧ x.text.size ≤ maxLen
 | .packet, x => wfInt .i64 x.src ∧ x.bytes.size ≤ maxLen
 | .place, x => x.key.size ≤ maxLen ∧ wfInt .i64 x.group
 | .bytes, l => l.length ≤ maxLen ∧ ∀ y ∈ l, True
 | .ints, l => l.length ≤ maxLen ∧ ∀ y ∈ l, wfInt .i64 y
 | .cells, l => l.length ≤ maxLen ∧ ∀ y ∈ l, WfCell y
 | .rows, l => l.length ≤ maxLen ∧ ∀ y ∈ l, WfRow y
 | .ask3, x => x.key.size ≤ maxLen ∧ x.from_.size ≤ maxLen ∧ x.til.size ≤ maxLen ∧ wfInt .i64 x.n
 | .three, x => (x.a.length ≤ maxLen ∧ ∀ y ∈ x.a, WfCell y) ∧ (x.b.length ≤ maxLen ∧ ∀ y ∈ x.b, WfCell y) ∧ (x.c.length ≤ maxLen ∧ ∀ y ∈ x.c, WfCell y)
 | _, _ => True
def FB (w : World) (F : Nat → Prop) : Prop := ∀ b, b < w.heap.size → F b
def OpnAt (P : Program) (c : TC) (t : TypeId) {H : Type} (en : TypeId × Value → H) (w : World) (base : Nat) (spare : Nat → Bool) (held : Bool) : Prop :=
 ∀ (m : Nat) (cs : List Value) (y : DataW H × List MemPlace), DataW.trod en P w base spare held m t cs = some y → ∃ x : U c, Wfd c x ∧ ∀ (F : Nat → Prop) (N : Nm) (nx : Nat), FB w F → HL F N nx w (enc c x) cs
def Opn (P : Program) (c : TC) (t : TypeId) : Prop := ∀ {H : Type} (en : TypeId × Value → H) (w : World) (base : Nat) (spare : Nat → Bool) (held : Bool), OpnAt P c t en w base spare held
def OpnLs (P : Program) (c : TC) (t : TypeId) : Prop := ∀ {H : Type} (en : TypeId × Value → H) (w : World) (base : Nat) (spare : Nat → Bool) (held : Bool) (m : Nat) (cs : List Value) (y : DataW H × List MemPlace),
 DataW.trod en P w base spare held m t cs = some y → ∃ l : List (U c), (l.length ≤ maxLen ∧ ∀ x ∈ l, Wfd c x) ∧ ∀ (F : Nat → Prop) (N : Nm) (nx : Nat), FB w F → HL F N nx w [.sl c l] cs
section
variable {P : Program} {t : TypeId}
theorem opn_i64 (hu : P.underlying t = some (.int .i64)) : Opn P .i64 t := fun en w base spare held m cs y h => by
 obtain ⟨n, rfl, _, hw⟩ := DataW.trod_int hu h
 exact ⟨n, hw, fun F N nx _ => HL.cons (Hv.v _) HL.nil⟩
theorem opn_bool (hu : P.underlying t = some .bool) : Opn P .bool t := fun en w base spare held m cs y h => by
 obtain ⟨n, rfl, _⟩ := DataW.trod_bool hu h
 exact ⟨n, trivial, fun F N nx _ => HL.cons (Hv.v _) HL.nil⟩
theorem opn_str (hu : P.underlying t = some .string) : Opn P .str t := fun en w base spare held m cs y h => by
 obtain ⟨n, rfl, _, hw⟩ := DataW.trod_string hu h
 exact ⟨n, hw, fun F N nx _ => HL.cons (Hv.v _) HL.nil⟩
theorem list_of {α : Type} {Q : Nat → α → Prop} : ∀ (n : Nat), (∀ i, i < n → ∃ x, Q i x) → ∃ l : List α, l.length = n ∧ ∀ (i : Nat) (x : α), l[i]? = some x → Q i x
 | 0, _ => ⟨[], rfl, fun i x h => by cases h⟩
 | n + 1, h => by
  obtain ⟨l, h1, h2⟩ := list_of n fun i hi => h i (by omega)
  obtain ⟨x, hx⟩ := h n (by omega)
  refine ⟨l ++ [x], by simp [h1], fun i y hy => ?_⟩
  rcases Nat.lt_trichotomy i n with hi | rfl | hi
  ·rw [List.getElem?_append_left (by omega)] at hy
   exact h2 i y hy
  ·rw [List.getElem?_append_right (by omega)] at hy
   simp [h1] at hy
   subst hy
   exact hx
  ·rw [List.getElem?_eq_none (by simp; omega)] at hy
   cases hy
theorem cells_get {w : World} {base : Nat} {a : Addr} {n : Nat} {cs : List Value} (h : w.cells? base a n = some cs) : base ≤ a.block ∧ cs.length = n ∧ ∀ (j : Nat) (v : Value), cs[j]? = some v → w.cell? (a.add j) = some v := by
 unfold World.cells? at h
 split at h
 ·rename_i hb
  refine ⟨hb, by simpa using mapM_some_length h, fun j v hv => ?_⟩
  have hl : cs.length = n := by simpa using mapM_some_length h
  have hj : j < n := by
   have := (List.getElem?_eq_some_iff.1 hv).1
   omega
  have := mapM_some_get h j j (by simp [hj])
  rw [this, hv]
 ·cases h
theorem opn_list {c : TC} {e : TypeId} (hu : P.underlying t = some (.slice e)) (hs : P.cellsOf e = size c) (he : Opn P c e) : OpnLs P c t := fun en w base spare held m cs y h => by
 rcases DataW.trod_slice hu h with ⟨rfl, _⟩ | ⟨a, len, cap, elems, rest, n, _, rfl, _, hb, hlc, hcm, hel, hg, _⟩
 ·exact ⟨[], ⟨Nat.zero_le _, fun x hx => by cases hx⟩, fun F N nx _ => HL.cons (Hv.sl_nil (a := none) rfl) HL.nil⟩
 ·have each : ∀ i, i < len → ∃ x : U c, Wfd c x ∧ ∃ zs, w.cells? base (a.add (i * size c)) (size c) = some zs ∧ ∀ (F : Nat → Prop) (N : Nm) (nx : Nat), FB w F → HL F N nx w (enc c x) zs := fun i hi => by
   have := hg i hi
   rw [hs] at this
   have h2 : elems[i]? ≠ none := by
    intro h0
    rw [List.getElem?_eq_none_iff] at h0
    omega
   obtain ⟨z, hz⟩ := Option.ne_none_iff_exists'.1 h2
   rw [hz] at this
   obtain ⟨zs, h3, h4⟩ := Option.bind_eq_some_iff.1 this
   obtain ⟨x, h5, h6⟩ := he en w base spare held n zs z h4
   exact ⟨x, h5, zs, h3, h6⟩
  obtain ⟨l, h1, h2⟩ := list_of len each
  refine ⟨l, ⟨by omega, fun x hx => ?_⟩, fun F N nx hF => HL.cons ?_ HL.nil⟩
  ·obtain ⟨i, hi⟩ := List.getElem?_of_mem hx
   exact (h2 i x hi).1
  ·subst h1
   refine Hv.sl a hlc (fun hp => ⟨rfl, ?_⟩) (fun i d j x hd hx => ?_) (fun i d j x y hd hx hy => ?_)
   ·obtain ⟨_, zs, h3, h4⟩ := h2 0 l[0] (by rw [List.getElem?_eq_getElem hp])
    obtain ⟨_, h5, h6⟩ := cells_get h3
    have hsz : 0 < zs.length := by rw [h5]; cases c <;> decide
    have := h6 0 zs[0] (by rw [List.getElem?_eq_getElem hsz])
    have := World.block_lt_of_cell? w _ this
    rw [add_block, add_block] at this
    exact hF _ this
   ·obtain ⟨_, zs, h3, h4⟩ := h2 i d hd
    obtain ⟨v, h5, h6⟩ := (h4 F N nx hF).get hx
    refine ⟨v, ?_⟩
    rw [← add_add]
    exact (cells_get h3).2.2 j v h5
   ·obtain ⟨_, zs, h3, h4⟩ := h2 i d hd
    obtain ⟨v, h5, h6⟩ := (h4 F N nx hF).get hx
    have := (cells_get h3).2.2 j v h5
    rw [add_add, hy] at this
    cases this
    exact h6
end
section
variable {H : Type} {en : TypeId × Value → H} {P : Program} {w : World} {base : Nat} {spare : Nat → Bool} {held : Bool} {F : Nat → Prop} {N : Nm} {nx : Nat}
theorem fldO {fs : Array Field} {cs : List Value} {m i : Nat} {xs : List (DataW H × List MemPlace)} {f : Field} {t : TypeId} {o k : Nat} {c : TC} (ho : Opn P c t) (hf : fs[i]? = some f) (ht : f.type = t) (hof : f.offset = o) (hk : P.cellsOf t = k) (hi : i < xs.length)
  (g : ∀ (i : Nat) (f : Field), fs[i]? = some f → DataW.trod en P w base spare held m f.type ((cs.drop f.offset).take (P.cellsOf f.type)) = xs[i]?) : ∃ x : U c, Wfd c x ∧ ∀ (F : Nat → Prop) (N : Nm) (nx : Nat), FB w F → HL F N nx w (enc c x) ((cs.drop o).take k) := by
 subst ht hof hk
 have := g i f hf
 rw [List.getElem?_eq_getElem hi] at this
 exact ho en w base spare held m _ _ this
theorem fldL {fs : Array Field} {cs : List Value} {m i : Nat} {xs : List (DataW H × List MemPlace)} {f : Field} {t : TypeId} {o k : Nat} {c : TC} (ho : OpnLs P c t) (hf : fs[i]? = some f) (ht : f.type = t) (hof : f.offset = o) (hk : P.cellsOf t = k) (hi : i < xs.length)
  (g : ∀ (i : Nat) (f : Field), fs[i]? = some f → DataW.trod en P w base spare held m f.type ((cs.drop f.offset).take (P.cellsOf f.type)) = xs[i]?) : ∃ l : List (U c), (l.length ≤ maxLen ∧ ∀ x ∈ l, Wfd c x) ∧ ∀ (F : Nat → Prop) (N : Nm) (nx : Nat), FB w F → HL F N nx w [.sl c l] ((cs.drop o).take k) := by
 subst ht hof hk
 have := g i f hf
 rw [List.getElem?_eq_getElem hi] at this
 exact ho en w base spare held m _ _ this
theorem arrO {cs : List Value} {m i n : Nat} {xs : List (DataW H × List MemPlace)} {t : TypeId} {k : Nat} {c : TC} (ho : Opn P c t) (hk : P.cellsOf t = k) (hx : i < xs.length) (hn : i < n)
  (g : ∀ (i : Nat), i < n → DataW.trod en P w base spare held m t ((cs.drop (i * P.cellsOf t)).take (P.cellsOf t)) = xs[i]?) : ∃ x : U c, Wfd c x ∧ ∀ (F : Nat → Prop) (N : Nm) (nx : Nat), FB w F → HL F N nx w (enc c x) ((cs.drop (i * k)).take k) := by
 subst hk
 have := g i hn
 rw [List.getElem?_eq_getElem hx] at this
 exact ho en w base spare held m _ _ this
theorem HLd {o k : Nat} {cs : List Value} {l r : List A} (h : HL F N nx w l ((cs.drop o).take k)) (h' : HL F N nx w r (cs.drop (o + k))) : HL F N nx w (l ++ r) (cs.drop o) := by
 have e : cs.drop o = (cs.drop o).take k ++ cs.drop (o + k) := by
  rw [← List.drop_drop, List.take_append_drop]
 rw [e]
 exact h.append h'
theorem HLe {o : Nat} {cs : List Value} (h : cs.length = o) : HL F N nx w [] (cs.drop o) := by
 rw [List.drop_eq_nil_of_le (by omega)]
 exact HL.nil
end
end Go.Proofs.Ytnfmceffbnaanaa
namespace Go.Proofs.Ytnfmceffbnaanaa
open Go.RowKit
theorem loop_inv {X : Type} {next : X → X} {goes : X → Cnd} {ps : X → List Prop} (I : X → Prop) (m : X → Nat) (h : ∀ x, I x → (∀ p ∈ ps x, p) ∧ (cval (goes x) = true → I (next x) ∧ m (next x) < m x)) :
  ∀ (n : Nat) (x : X), I x → m x ≤ n → needX next goes ps n x ∧ I (iterX next goes n x) ∧ cval (goes (iterX next goes n x)) = false
 | 0, x, hi, hm => by
  obtain ⟨h1, h2⟩ := h x hi
  have hg : cval (goes x) = false := by
   cases hc : cval (goes x) with
   | false => rfl
   | true => have := (h2 hc).2; omega
  exact ⟨⟨h1, hg⟩, hi, hg⟩
 | n + 1, x, hi, hm => by
  obtain ⟨h1, h2⟩ := h x hi
  cases hc : cval (goes x) with
  | false =>
   have e : iterX next goes (n + 1) x = x := by
    show (bif cval (goes x) then _ else x) = x
    rw [hc]; rfl
   rw [e]
   exact ⟨⟨h1, fun hh => by rw [hc] at hh; cases hh⟩, hi, hc⟩
  | true =>
   have e : iterX next goes (n + 1) x = iterX next goes n (next x) := by
    show (bif cval (goes x) then _ else x) = _
    rw [hc]; rfl
   obtain ⟨h3, h4⟩ := h2 hc
   obtain ⟨g1, g2, g3⟩ := loop_inv I m h n (next x) h3 (by omega)
   rw [e]
   exact ⟨⟨h1, fun _ => g1⟩, g2, g3⟩
theorem i64_in {n : Int} (h : -9223372036854775808 ≤ n ∧ n ≤ 9223372036854775807) : IntKind.i64.wrap n = n := IntWalk.i64_in n h
end Go.Proofs.Ytnfmceffbnaanaa
namespace Go.Proofs.Ytnfmceffbnaanaa
open Go.RowKit
def be : Nat → Nat → List UInt8
 | 0, _ => []
 | k + 1, N => UInt8.ofNat (N / 256 ^ k) :: be k N
def val (acc : Nat) (l : List UInt8) : Nat := l.foldl (fun a y => a * 256 + y.toNat) acc
end Go.Proofs.Ytnfmceffbnaanaa
namespace Go.Proofs.Ytnfmceffbnaanaa
open Go.RowKit
theorem scan_from {X : Type} (mk : Nat → X) (n : Nat) (stop : Nat → Bool) (next : X → X) (goes : X → Cnd) (ps : X → List Prop)
  (hg : ∀ i, i ≤ n → (∀ j, j < i → stop j = false) → cval (goes (mk i)) = (decide (i < n) && !stop i)) (hn : ∀ i, i < n → (∀ j, j < i + 1 → stop j = false) → next (mk i) = mk (i + 1)) (hp : ∀ i, i ≤ n → (∀ j, j < i → stop j = false) → ∀ p ∈ ps (mk i), p) :
  ∀ (f i : Nat), i ≤ n → n ≤ i + f → (∀ j, j < i → stop j = false) →
  needX next goes ps f (mk i) ∧ ∃ k, k ≤ n ∧ iterX next goes f (mk i) = mk k ∧ (∀ j, j < k → stop j = false) ∧ (k < n → stop k = true)
 | 0, i, hi, hf, hs => by
  have hc := hg i hi hs
  have : i = n := by omega
  rw [decide_eq_false (by omega), Bool.false_and] at hc
  exact ⟨⟨hp i hi hs, hc⟩, i, hi, rfl, hs, fun h => by omega⟩
 | f + 1, i, hi, hf, hs => by
  have hc := hg i hi hs
  cases hb : cval (goes (mk i)) with
  | false =>
   have e : iterX next goes (f + 1) (mk i) = mk i := by
    show (bif cval (goes (mk i)) then _ else mk i) = mk i
    rw [hb]; rfl
   rw [e]
   refine ⟨⟨hp i hi hs, fun h => by rw [hb] at h; cases h⟩, i, hi, rfl, hs, fun h => ?_⟩
   rw [hb, decide_eq_true h, Bool.true_and] at hc
   cases hst : stop i with
   | true => rfl
   | false => rw [hst] at hc; cases hc
  | true =>
   rw [hb] at hc
   have h1 : i < n := by
    cases hd : decide (i < n) with
    | true => exact of_decide_eq_true hd
    | false => rw [hd] at hc; cases hc
   have h2 : stop i = false := by
    cases hst : stop i with
    | false => rfl
    | true => rw [hst, Bool.and_comm] at hc; cases hc
   have hs' : ∀ j, j < i + 1 → stop j = false := fun j hj => by
    by_cases h : j < i
    ·exact hs j h
    ·obtain rfl : j = i := by omega
     exact h2
   have e : iterX next goes (f + 1) (mk i) = iterX next goes f (mk (i + 1)) := by
    show (bif cval (goes (mk i)) then iterX next goes f (next (mk i)) else mk i) = _
    rw [hb, hn i h1 hs']; rfl
   obtain ⟨g1, g2⟩ := scan_from mk n stop next goes ps hg hn hp f (i + 1) h1 (by omega) hs'
   rw [e]
   exact ⟨⟨hp i hi hs, fun _ => by rw [hn i h1 hs']; exact g1⟩, g2⟩
theorem scan {X : Type} (mk : Nat → X) (n : Nat) (stop : Nat → Bool) (next : X → X) (goes : X → Cnd) (ps : X → List Prop) (f : Nat) (x : X) (hx : x = mk 0) (hf : n ≤ f)
  (hg : ∀ i, i ≤ n → (∀ j, j < i → stop j = false) → cval (goes (mk i)) = (decide (i < n) && !stop i)) (hn : ∀ i, i < n → (∀ j, j < i + 1 → stop j = false) → next (mk i) = mk (i + 1)) (hp : ∀ i, i ≤ n → (∀ j, j < i → stop j = false) → ∀ p ∈ ps (mk i), p) :
  needX next goes ps f x ∧ ∃ k, k ≤ n ∧ iterX next goes f x = mk k ∧ (∀ j, j < k → stop j = false) ∧ (k < n → stop k = true) := by
 subst hx
 exact scan_from mk n stop next goes ps hg hn hp f 0 (Nat.zero_le _) (by omega) fun j h => absurd h (Nat.not_lt_zero _)
theorem wsucc {i : Nat} (h : i < 9223372036854775807) : IntKind.i64.wrap ((i : Int) + 1) = ((i + 1 : Nat) : Int) := by rw [i64_in (by omega)]; omega
theorem dlt {i n : Nat} : decide ((i : Int) < (n : Int)) = decide (i < n) := by
 by_cases h : i < n
 ·rw [decide_eq_true h, decide_eq_true (by omega)]
 ·rw [decide_eq_false h, decide_eq_false (by omega)]
theorem nn (b : Bool) : (!!b) = b := Bool.not_not b
def wideN (n : Nat) : Prop := n ≤ 9223372036854775807
def allN (n : Nat) (p : Nat → Bool) : Bool := (List.range n).all p
theorem allN_iff {n : Nat} {p : Nat → Bool} : allN n p = true ↔ ∀ i, i < n → p i = true := by
 unfold allN
 rw [List.all_eq_true]
 exact ⟨fun h i hi => h i (List.mem_range.2 hi), fun h i hi => h i (List.mem_range.1 hi)⟩
theorem allN_congr {n : Nat} {p q : Nat → Bool} (h : ∀ i, i < n → p i = q i) : allN n p = allN n q := by
 rw [Bool.eq_iff_iff, allN_iff, allN_iff]
 exact ⟨fun g i hi => (h i hi) ▸ g i hi, fun g i hi => (h i hi).symm ▸ g i hi⟩
theorem scanB {X : Type} (mk : Nat → X) (n : Nat) (bad : Nat → Bool) (next : X → X) (goes : X → Cnd) (ps : X → List Prop) (f : Nat) (x : X) (hx : x = mk 0) (hf : n ≤ f)
  (hg : ∀ i, i ≤ n → (∀ j, j < i → bad j = false) → cval (goes (mk i)) = (decide (i < n) && !bad i)) (hn : ∀ i, i < n → (∀ j, j < i + 1 → bad j = false) → next (mk i) = mk (i + 1)) (hp : ∀ i, i ≤ n → (∀ j, j < i → bad j = false) → ∀ p ∈ ps (mk i), p) :
  needX next goes ps f x ∧ ∃ k, k ≤ n ∧ iterX next goes f x = mk k ∧ (∀ j, j < k → bad j = false) ∧ (k < n → bad k = true) ∧ (decide (k < n) && bad k) = !allN n (fun i => !bad i) := by
 obtain ⟨h1, k, hk, h2, h3, h4⟩ := scan mk n bad next goes ps f x hx hf hg hn hp
 refine ⟨h1, k, hk, h2, h3, h4, ?_⟩
 by_cases h : k < n
 ·rw [decide_eq_true h, h4 h]
  cases ha : allN n (fun i => !bad i) with
  | false => rfl
  | true => have := allN_iff.1 ha k h; rw [h4 h] at this; cases this
 ·rw [decide_eq_false h, allN_iff.2 (fun i hi => by rw [h3 i (by omega)]; rfl)]
  rfl
instance : LawfulBEq ByteArray where
 rfl := fun {a} => by cases a with | mk a => exact beq_self_eq_true a
 eq_of_beq := fun {a b} h => by
  cases a with | mk a => cases b with | mk b => exact congrArg ByteArray.mk (eq_of_beq (α := Array UInt8) h)
end Go.Proofs.Ytnfmceffbnaanaa
namespace Go.Proofs.Ytnfmceffbnaanaa
open Go.RowKit
theorem bless_irrefl : ∀ x : List UInt8, Op.bytesLess x x = false
 | [] => rfl
 | a :: x => by
  unfold Op.bytesLess
  rw [bless_irrefl x]
  simp
theorem bless_trans : ∀ {x y z : List UInt8}, Op.bytesLess x y = true → Op.bytesLess y z = true → Op.bytesLess x z = true
 | x, [], _, h, _ => by cases x <;> cases h
 | _, _ :: _, [], _, h => by cases h
 | [], _ :: _, _ :: _, _, _ => rfl
 | a :: x, b :: y, c :: z, h, g => by
  unfold Op.bytesLess at *
  simp only [Bool.or_eq_true, decide_eq_true_eq, Bool.and_eq_true, beq_iff_eq] at *
  rcases h with h | ⟨rfl, h⟩ <;> rcases g with g | ⟨rfl, g⟩
  ·exact .inl (UInt8.lt_trans h g)
  ·exact .inl h
  ·exact .inl g
  ·exact .inr ⟨rfl, bless_trans h g⟩
theorem bless_total : ∀ {x y : List UInt8}, Op.bytesLess x y = false → x ≠ y → Op.bytesLess y x = true
 | [], [], _, h => absurd rfl h
 | [], _ :: _, h, _ => by cases h
 | _ :: _, [], _, _ => rfl
 | a :: x, b :: y, h, g => by
  unfold Op.bytesLess at *
  simp only [Bool.or_eq_true, Bool.or_eq_false_iff, decide_eq_true_eq, decide_eq_false_iff_not, Bool.and_eq_true, beq_iff_eq] at *
  obtain ⟨h1, h2⟩ := h
  by_cases e : a = b
  ·subst e
   refine .inr ⟨rfl, bless_total (by simpa using h2) fun e => g (by rw [e])⟩
  ·left
   have h1' : ¬ a.toNat < b.toNat := h1
   have h3 : a.toNat ≠ b.toNat := fun h => e (UInt8.toNat_inj.1 h)
   show b.toNat < a.toNat
   omega
theorem eqB_iff {x y : ByteArray} : (x.toList == y.toList) = true ↔ x = y := by
 rw [beq_iff_eq, ByteArray.toList_eq, ByteArray.toList_eq]
 constructor
 ·intro h
  cases x; cases y
  simpa using h
 ·rintro rfl; rfl
theorem tlb (a b : ByteArray) : (a.toList == b.toList) = (a == b) := by
 rw [Bool.eq_iff_iff, eqB_iff, beq_iff_eq]
theorem toL_inj {a b : ByteArray} (h : a.toList = b.toList) : a = b := by
 have : (a.toList == b.toList) = true := beq_iff_eq.2 h
 rw [tlb] at this
 exact eq_of_beq this
theorem kLt_trans {a b c : ByteArray} (h : kLt a b = true) (g : kLt b c = true) : kLt a c = true := bless_trans h g
theorem kLt_irrefl (a : ByteArray) : kLt a a = false := bless_irrefl _
theorem kLt_ne {a b : ByteArray} (h : kLt a b = true) : a ≠ b := by
 rintro rfl
 rw [kLt_irrefl] at h
 cases h
theorem kLt_total {a b : ByteArray} (h : kLt a b = false) (g : a ≠ b) : kLt b a = true := bless_total h fun e => g (toL_inj e)
theorem kLt_asymm {a b : ByteArray} (h : kLt a b = true) : kLt b a = false := by
 cases g : kLt b a with
 | false => rfl
 | true => exact absurd (kLt_trans h g) (by rw [kLt_irrefl]; decide)
def fstN (p : Nat → Bool) (n : Nat) : Nat := (List.range n).findIdx p
theorem fstN_le (p : Nat → Bool) (n : Nat) : fstN p n ≤ n := by
 have := List.findIdx_le_length (xs := List.range n) (p := p)
 rwa [List.length_range] at this
theorem fstN_at {p : Nat → Bool} {n : Nat} (h : fstN p n < n) : p (fstN p n) = true := by
 have h' : (List.range n).findIdx p < (List.range n).length := by rw [List.length_range]; exact h
 have := List.findIdx_getElem (w := h')
 rw [List.getElem_range] at this
 exact this
theorem fstN_no {p : Nat → Bool} {n i : Nat} (h : i < fstN p n) : p i = false := by
 have h' : i < (List.range n).findIdx p := h
 have := List.not_of_lt_findIdx h'
 rw [List.getElem_range] at this
 exact this
theorem fstN_eq {p : Nat → Bool} {n k : Nat} (hk : k ≤ n) (h1 : ∀ i, i < k → p i = false) (h2 : k < n → p k = true) : fstN p n = k := by
 rcases Nat.lt_trichotomy (fstN p n) k with h | h | h
 ·have h3 := fstN_at (p := p) (n := n) (by omega)
  rw [h1 _ h] at h3
  cases h3
 ·exact h
 ·have h3 := fstN_no (p := p) (n := n) h
  have := fstN_le p n
  rw [h2 (by omega)] at h3
  cases h3
theorem mid_eq {i j : Nat} (h : i + j < 4611686018427387904) : IntKind.i64.wrap ((IntKind.u64.wrap (IntKind.i64.wrap ((i : Int) + (j : Int)))).fdiv 2) = (((i + j) / 2 : Nat) : Int) := by
 rw [i64_in (n := (i : Int) + (j : Int)) (by omega)]
 have h1 : IntKind.u64.wrap ((i : Int) + (j : Int)) = ((i + j : Nat) : Int) := by
  rw [IntWalk.u64_in _ (by omega)]
  omega
 rw [h1, show ((i + j : Nat) : Int).fdiv 2 = (((i + j) / 2 : Nat) : Int) from by rw [Int.fdiv_eq_ediv_of_nonneg _ (by decide)]; omega]
 exact i64_in (by omega)
theorem bsearch {X : Type} (mk : Int → Int → X) (n : Nat) (p : Nat → Bool) (m : X → Nat) (next : X → X) (goes : X → Cnd) (ps : X → List Prop) (hm : ∀ i j, m (mk i j) = (j - i).toNat) (hmono : ∀ i j, i ≤ j → j < n → p i = true → p j = true)
  (hg : ∀ i j : Nat, cval (goes (mk i j)) = decide (i < j)) (hx : ∀ i j : Nat, i < j → j ≤ n → next (mk i j) = bif p ((i + j) / 2) then mk i ((i + j) / 2 : Nat) else mk (((i + j) / 2 + 1 : Nat) : Int) j)
  (hp : ∀ i j : Nat, j ≤ n → ∀ q ∈ ps (mk i j), q) (f : Nat) (hf : n ≤ f) : needX next goes ps f (mk 0 n) ∧ iterX next goes f (mk 0 n) = mk (fstN p n) (fstN p n) := by
 obtain ⟨h1, ⟨i, j, e, h2, h3, h4, h5⟩, h6⟩ := loop_inv (next := next) (goes := goes) (ps := ps) (fun x => ∃ i j : Nat, x = mk i j ∧ i ≤ j ∧ j ≤ n ∧ (∀ t, t < i → p t = false) ∧ ∀ t, j ≤ t → t < n → p t = true) m (fun x ⟨i, j, e, h2, h3, h4, h5⟩ => by
  subst e
  refine ⟨hp i j h3, fun hc => ?_⟩
  rw [hg] at hc
  have hlt := of_decide_eq_true hc
  rw [hx i j hlt h3, hm]
  have hd : i ≤ (i + j) / 2 ∧ (i + j) / 2 < j := by omega
  cases hb : p ((i + j) / 2) with
  | true => exact ⟨⟨i, (i + j) / 2, rfl, by omega, by omega, h4, fun t ht1 ht2 => hmono _ t ht1 ht2 hb⟩, by rw [cond_true, hm]; omega⟩
  | false =>
   refine ⟨⟨(i + j) / 2 + 1, j, rfl, by omega, h3, fun t ht => ?_, h5⟩, by rw [cond_false, hm]; omega⟩
   cases hq : p t with
   | false => rfl
   | true =>
    rw [hmono t ((i + j) / 2) (by omega) (by omega) hq] at hb
    cases hb) f (mk 0 n) ⟨0, n, rfl, Nat.zero_le _, Nat.le_refl _, fun t h => absurd h (Nat.not_lt_zero _), fun t h1 h2 => absurd h2 (by omega)⟩ (by rw [hm]; omega)
 rw [e, hg] at h6
 have hij : i = j := by have := of_decide_eq_false h6; omega
 subst hij
 refine ⟨h1, e.trans ?_⟩
 rw [fstN_eq h3 h4 fun h => h5 i (Nat.le_refl _) h]
def blkN (bs : List TBlock) (i : Nat) : TBlock := bs.getD i (dflt TC.block)
def keyN (ks : List ByteArray) (i : Nat) : ByteArray := ks.getD i (dflt TC.str)
def lastK (b : TBlock) : ByteArray := keyN b.keys (b.keys.length - 1)
def blkI (bs : List TBlock) (key : ByteArray) : Nat := fstN (fun i => !kLt (lastK (blkN bs i)) key) bs.length
def keyI (ks : List ByteArray) (key : ByteArray) : Nat := fstN (fun i => !kLt (keyN ks i) key) ks.length
theorem keyN_at {ks : List ByteArray} {i : Nat} (h : i < ks.length) : keyN ks i = ks[i] := by unfold keyN; rw [List.getD_eq_getElem?_getD, List.getElem?_eq_getElem h]; rfl
theorem blkN_at {bs : List TBlock} {i : Nat} (h : i < bs.length) : blkN bs i = bs[i] := by unfold blkN; rw [List.getD_eq_getElem?_getD, List.getElem?_eq_getElem h]; rfl
theorem pairwise_keys {ks : List ByteArray} (h : ks.Pairwise fun a b => kLt a b = true) {i j : Nat} (hij : i < j) (hj : j < ks.length) : kLt (keyN ks i) (keyN ks j) = true := by
 rw [keyN_at hj, keyN_at (by omega)]
 exact (List.pairwise_iff_getElem.1 h) i j (by omega) hj hij
theorem GoodB.at {bs : List TBlock} (h : GoodB bs) {i : Nat} (hi : i < bs.length) : (blkN bs i).keys.length = (blkN bs i).vals.length ∧ 0 < (blkN bs i).keys.length := by
 rw [blkN_at hi]
 exact h.len _ (List.getElem_mem hi)
theorem GoodB.keys {bs : List TBlock} (h : GoodB bs) {i : Nat} (hi : i < bs.length) : (blkN bs i).keys.Pairwise fun a b => kLt a b = true := by
 rw [blkN_at hi]
 have := h.ord
 rw [List.flatMap_def, List.pairwise_flatten] at this
 exact this.1 _ (List.mem_map.2 ⟨_, List.getElem_mem hi, rfl⟩)
theorem GoodB.lt {bs : List TBlock} (h : GoodB bs) {i j : Nat} (hij : i < j) (hj : j < bs.length) {x y : ByteArray} (hx : x ∈ (blkN bs i).keys) (hy : y ∈ (blkN bs j).keys) : kLt x y = true := by
 rw [blkN_at (by omega)] at hx
 rw [blkN_at hj] at hy
 have := h.ord
 rw [List.flatMap_def, List.pairwise_flatten] at this
 have h2 := (List.pairwise_iff_getElem.1 this.2) i j (by rw [List.length_map]; omega) (by rw [List.length_map]; exact hj) hij
 rw [List.getElem_map, List.getElem_map] at h2
 exact h2 x hx y hy
theorem lastK_mem {b : TBlock} (h : 0 < b.keys.length) : lastK b ∈ b.keys := by
 unfold lastK
 rw [keyN_at (by omega)]
 exact List.getElem_mem _
theorem mono1 {ks : List ByteArray} (h : ks.Pairwise fun a b => kLt a b = true) (key : ByteArray) : ∀ i j, i ≤ j → j < ks.length → (!kLt (keyN ks i) key) = true → (!kLt (keyN ks j) key) = true := fun i j hij hj hp => by
 rcases Nat.lt_or_ge i j with h1 | h1
 ·have h2 := pairwise_keys h h1 hj
  cases h3 : kLt (keyN ks j) key with
  | false => rfl
  | true => rw [kLt_trans h2 h3] at hp; cases hp
 ·rw [show j = i by omega]; exact hp
theorem mono2 {bs : List TBlock} (h : GoodB bs) (key : ByteArray) : ∀ i j, i ≤ j → j < bs.length → (!kLt (lastK (blkN bs i)) key) = true → (!kLt (lastK (blkN bs j)) key) = true := fun i j hij hj hp => by
 rcases Nat.lt_or_ge i j with h1 | h1
 ·have h2 := h.lt h1 hj (lastK_mem (h.at (by omega)).2) (lastK_mem (h.at hj).2)
  cases h3 : kLt (lastK (blkN bs j)) key with
  | false => rfl
  | true => rw [kLt_trans h2 h3] at hp; cases hp
 ·rw [show j = i by omega]; exact hp
def fairB (bs : List TBlock) : Prop := bs.length ≤ 1152921504606846976 ∧ ∀ b ∈ bs, b.keys.length ≤ 1152921504606846976
theorem sr1_eq {bs : List TBlock} (h : GoodB bs) (hf : fairB bs) (n : Int) (key : ByteArray) : needX sr1_l0_next sr1_l0_goes sr1_l0_ps (sr1_l0_fuel (0, (bs.length : Int), bs, n, key)) (0, (bs.length : Int), bs, n, key) ∧
  sr1_l0_run (0, (bs.length : Int), bs, n, key) = ((blkI bs key : Int), (blkI bs key : Int), bs, n, key) := by
 have hmid : ∀ i j : Nat, j ≤ bs.length → i < j → sr1_l0_f_k1 i j bs n key = (((i + j) / 2 : Nat) : Int) := fun i j hj hi => mid_eq (by have := hf.1; omega)
 have hlast : ∀ i j : Nat, j ≤ bs.length → i < j → sr1_l0_f_k2 i j bs n key = (((blkN bs ((i + j) / 2)).keys.length - 1 : Nat) : Int) := fun i j hj hi => by
  unfold sr1_l0_f_k2
  rw [hmid i j hj hi, Int.toNat_natCast]
  have h1 := (h.at (i := (i + j) / 2) (by omega)).2
  have h2 := hf.2 (blkN bs ((i + j) / 2)) (by rw [blkN_at (by omega)]; exact List.getElem_mem _)
  show IntKind.i64.wrap (((blkN bs ((i + j) / 2)).keys.length : Int) - 1) = _
  rw [i64_in (by omega)]
  omega
 refine bsearch (fun i j => ((i, j, bs, n, key) : sr1_l0_X)) bs.length (fun i => !kLt (lastK (blkN bs i)) key) (fun x => (x.2.1 - x.1).toNat) sr1_l0_next sr1_l0_goes sr1_l0_ps (fun _ _ => rfl) (mono2 h key) (fun i j => ?_) (fun i j hi hj => ?_) (fun i j hj => ?_) _ (by show bs.length ≤ ((bs.length : Int) - 0).toNat; omega)
 ·show (!!decide ((i : Int) < (j : Int))) = _
  rw [nn, dlt]
 ·show (sr1_l0_f_0 i j bs n key, sr1_l0_f_1 i j bs n key, bs, n, key) = _
  unfold sr1_l0_f_0 sr1_l0_f_1
  have hk : sr1_l0_f_k0 i j bs n key = kLt (lastK (blkN bs ((i + j) / 2))) key := by
   unfold sr1_l0_f_k0
   rw [nn, hlast i j hj hi, hmid i j hj hi, Int.toNat_natCast, Int.toNat_natCast]
   rfl
  rw [hk, hmid i j hj hi, wsucc (by have := hf.1; omega)]
  cases kLt (lastK (blkN bs ((i + j) / 2))) key <;> rfl
 ·have hin : (!!decide ((i : Int) < (j : Int))) = true → i < j := fun h => by rw [nn, dlt] at h; exact of_decide_eq_true h
  refine needs_cons (fun hd => ?_) (needs_cons (fun hd => ?_) needs_nil)
  ·have := hin hd
   show 0 ≤ sr1_l0_f_k1 i j bs n key ∧ sr1_l0_f_k1 i j bs n key < (bs.length : Int)
   rw [hmid i j hj this]
   omega
  ·have := hin hd
   show 0 ≤ sr1_l0_f_k2 i j bs n key ∧ sr1_l0_f_k2 i j bs n key < ((bs.getD (sr1_l0_f_k1 i j bs n key).toNat (dflt TC.block)).keys.length : Int)
   rw [hlast i j hj this, hmid i j hj this, Int.toNat_natCast]
   have h1 := (h.at (i := (i + j) / 2) (by omega)).2
   show _ ∧ _ < ((blkN bs ((i + j) / 2)).keys.length : Int)
   omega
theorem sr2_eq {ks : List ByteArray} (h : ks.Pairwise fun a b => kLt a b = true) (hf : ks.length ≤ 1152921504606846976) (key : ByteArray) : needX sr2_l0_next sr2_l0_goes sr2_l0_ps (sr2_l0_fuel (0, (ks.length : Int), ks, key)) (0, (ks.length : Int), ks, key) ∧
  sr2_l0_run (0, (ks.length : Int), ks, key) = ((keyI ks key : Int), (keyI ks key : Int), ks, key) := by
 have hmid : ∀ i j : Nat, j ≤ ks.length → i < j → sr2_l0_f_k1 i j ks key = (((i + j) / 2 : Nat) : Int) := fun i j hj hi => mid_eq (by omega)
 refine bsearch (fun i j => ((i, j, ks, key) : sr2_l0_X)) ks.length (fun i => !kLt (keyN ks i) key) (fun x => (x.2.1 - x.1).toNat) sr2_l0_next sr2_l0_goes sr2_l0_ps (fun _ _ => rfl) (mono1 h key) (fun i j => ?_) (fun i j hi hj => ?_) (fun i j hj => ?_) _ (by show ks.length ≤ ((ks.length : Int) - 0).toNat; omega)
 ·show (!!decide ((i : Int) < (j : Int))) = _
  rw [nn, dlt]
 ·show (sr2_l0_f_0 i j ks key, sr2_l0_f_1 i j ks key, ks, key) = _
  unfold sr2_l0_f_0 sr2_l0_f_1
  have hk : sr2_l0_f_k0 i j ks key = kLt (keyN ks ((i + j) / 2)) key := by
   unfold sr2_l0_f_k0
   rw [nn, hmid i j hj hi, Int.toNat_natCast]
   rfl
  rw [hk, hmid i j hj hi, wsucc (by omega)]
  cases kLt (keyN ks ((i + j) / 2)) key <;> rfl
 ·have hin : (!!decide ((i : Int) < (j : Int))) = true → i < j := fun h => by rw [nn, dlt] at h; exact of_decide_eq_true h
  refine needs_cons (fun hd => ?_) needs_nil
  have := hin hd
  show 0 ≤ sr2_l0_f_k1 i j ks key ∧ sr2_l0_f_k1 i j ks key < (ks.length : Int)
  rw [hmid i j hj this]
  omega
def atI (bs : List TBlock) (key : ByteArray) : Nat × Nat × Bool :=
 bif Nat.blt (blkI bs key) bs.length then (blkI bs key, keyI (blkN bs (blkI bs key)).keys key, keyN (blkN bs (blkI bs key)).keys (keyI (blkN bs (blkI bs key)).keys key) == key) else (blkI bs key, 0, false)
theorem keyI_lt {bs : List TBlock} (h : GoodB bs) {key : ByteArray} (hi : blkI bs key < bs.length) : keyI (blkN bs (blkI bs key)).keys key < (blkN bs (blkI bs key)).keys.length := by
 have h1 := fstN_at (p := fun i => !kLt (lastK (blkN bs i)) key) (n := bs.length) hi
 have h2 := (h.at hi).2
 rcases Nat.lt_or_ge (keyI (blkN bs (blkI bs key)).keys key) (blkN bs (blkI bs key)).keys.length with h3 | h3
 ·exact h3
 ·have h4 := fstN_no (p := fun i => !kLt (keyN (blkN bs (blkI bs key)).keys i) key) (n := (blkN bs (blkI bs key)).keys.length) (i := (blkN bs (blkI bs key)).keys.length - 1) (Nat.lt_of_lt_of_le (by omega) h3)
  have h1' : (!kLt (keyN (blkN bs (blkI bs key)).keys ((blkN bs (blkI bs key)).keys.length - 1)) key) = true := h1
  rw [h4] at h1'
  cases h1'
theorem at_ok {bs : List TBlock} (h : GoodB bs) (hf : fairB bs) (n : Int) (key : ByteArray) :
  CallOk Try.prog 30 [.ref [.sl .block bs, .v (.int .i64 n)], .v (.string key)] 0 [] 1 (.v (.tuple #[.int .i64 (atI bs key).1, .int .i64 (atI bs key).2.1, .bool (atI bs key).2.2])) 0 [] := by
 obtain ⟨h1, h2⟩ := sr1_eq h hf n key
 have hlt : (blkI bs key : Nat) ≤ bs.length := fstN_le _ _
 have k3 : at1_k3 bs n key = (blkI bs key : Int) := by unfold at1_k3; rw [h2]
 have k0 : at1_k0 bs n key = !Nat.blt (blkI bs key) bs.length := by
  unfold at1_k0
  rw [k3, h2]
  show ((blkI bs key : Int) == (bs.length : Int)) = _
  rw [Bool.eq_iff_iff, beq_iff_eq, Bool.not_eq_true']
  constructor
  ·intro e
   cases hb : Nat.blt (blkI bs key) bs.length with
   | false => rfl
   | true => have := Nat.le_of_ble_eq_true hb; omega
  ·intro e
   have : ¬ blkI bs key < bs.length := fun h => by
    have : Nat.blt (blkI bs key) bs.length = true := Nat.ble_eq_true_of_le h
    rw [this] at e
    cases e
   omega
 have hb : (!at1_k0 bs n key) = true → blkI bs key < bs.length := fun e => by
  rw [k0, Bool.not_not] at e
  exact Nat.le_of_ble_eq_true e
 have hk : ∀ (hi : blkI bs key < bs.length), needX sr2_l0_next sr2_l0_goes sr2_l0_ps (sr2_l0_fuel (0, ((blkN bs (blkI bs key)).keys.length : Int), (blkN bs (blkI bs key)).keys, key)) (0, ((blkN bs (blkI bs key)).keys.length : Int), (blkN bs (blkI bs key)).keys, key) ∧
   sr2_l0_run (0, ((blkN bs (blkI bs key)).keys.length : Int), (blkN bs (blkI bs key)).keys, key) = ((keyI (blkN bs (blkI bs key)).keys key : Int), (keyI (blkN bs (blkI bs key)).keys key : Int), (blkN bs (blkI bs key)).keys, key) := fun hi =>
  sr2_eq (h.keys hi) (hf.2 _ (by rw [blkN_at hi]; exact List.getElem_mem _)) key
 have r2 : ∀ (hi : blkI bs key < bs.length), sr2_l0_run ((0 : Int), (↑((sr1_l0_run ((0 : Int), (↑bs.length : Int), bs, n, key)).snd.snd.fst.getD (at1_k3 bs n key).toNat (dflt TC.block)).1.length : Int), ((sr1_l0_run ((0 : Int), (↑bs.length : Int), bs, n, key)).snd.snd.fst.getD (at1_k3 bs n key).toNat (dflt TC.block)).1, (sr1_l0_run ((0 : Int), (↑bs.length : Int), bs, n, key)).snd.snd.snd.snd) = ((keyI (blkN bs (blkI bs key)).keys key : Int), (keyI (blkN bs (blkI bs key)).keys key : Int), (blkN bs (blkI bs key)).keys, key) := fun hi => by
  rw [h2, k3, Int.toNat_natCast]
  exact (hk hi).2
 have hc := at1_c bs n key (needs_cons h1 (needs_cons (fun e => by rw [k3, h2]; have := hb e; show 0 ≤ (blkI bs key : Int) ∧ (blkI bs key : Int) < (bs.length : Int); omega) (needs_cons (fun e => by rw [h2, k3, Int.toNat_natCast]; exact (hk (hb e)).1) (needs_cons (fun e => by
  have hi := hb e
  unfold at1_k2 at1_k1
  rw [r2 hi]
  have := keyI_lt h hi
  show 0 ≤ (keyI (blkN bs (blkI bs key)).keys key : Int) ∧ (keyI (blkN bs (blkI bs key)).keys key : Int) < ((blkN bs (blkI bs key)).keys.length : Int)
  omega) needs_nil))))
 unfold at1_r at1_o at hc
 have e0 : at1_0 bs n key = ((atI bs key).1 : Int) := by
  unfold at1_0 atI
  rw [k3]
  cases Nat.blt (blkI bs key) bs.length <;> cases at1_k0 bs n key <;> rfl
 have e1 : at1_1 bs n key = ((atI bs key).2.1 : Int) := by
  unfold at1_1 atI
  cases hbl : Nat.blt (blkI bs key) bs.length with
  | false => rw [k0, hbl]; rfl
  | true => rw [k0, hbl]; unfold at1_k2; rw [r2 (Nat.le_of_ble_eq_true hbl)]; rfl
 have e2 : at1_2 bs n key = (atI bs key).2.2 := by
  unfold at1_2 atI
  cases hbl : Nat.blt (blkI bs key) bs.length with
  | false => rw [k0, hbl]; rfl
  | true =>
   rw [k0, hbl]
   unfold at1_k2 at1_k1
   rw [r2 (Nat.le_of_ble_eq_true hbl)]
   show (ByteArray.toList (keyN (blkN bs (blkI bs key)).keys (((keyI (blkN bs (blkI bs key)).keys key : Nat) : Int)).toNat) == key.toList) = _
   rw [Int.toNat_natCast, tlb]
   rfl
 rw [e0, e1, e2] at hc
 exact hc
end Go.Proofs.Ytnfmceffbnaanaa
namespace Go.Proofs.Ytnfmceffbnaanaa
open Go.RowKit
theorem celH_spot {h : Nat → Option Obj} {a : Addr} {y : Value} (hc : celH h a = some y) : a.spot = none := by
 unfold celH at hc
 split at hc <;> first | (cases hc; done) | skip
 cases hs : a.spot with
 | none => rfl
 | some s => rw [hs] at hc; simp at hc
theorem addr_eq {a : Addr} (h : a.spot = none) : a = ⟨a.block, a.off, none⟩ := by cases a; cases h; rfl
theorem rv_mono {h h' : Nat → Option Obj} {Q Q' : Nat → Prop} (hq : ∀ g, Q g → Q' g) (hc : ∀ a, Q a.block → ∀ y, celH h a = some y → celH h' a = some y) {x : A} {y : Value} (hr : Rv h Q x y) : Rv h' Q' x y := by
 induction hr with
 | v x => exact .v x
 | sl ad h1 h2 h3 h4 ih =>
  have hb : ∀ {i : Nat} {d}, _ = some d → Q ad.block := fun {i d} (hd : _[i]? = some d) => (h2 (Nat.lt_of_le_of_lt (Nat.zero_le i) (List.getElem?_eq_some_iff.1 hd).1)).2
  refine .sl ad h1 (fun hp => ⟨(h2 hp).1, hq _ (h2 hp).2⟩) (fun i d j x hd hx => ?_) (fun i d j x y hd hx hy => ?_)
  ·obtain ⟨y, hy⟩ := h3 i d j x hd hx
   exact ⟨y, hc _ (by rw [add_block]; exact hb hd) y hy⟩
  ·obtain ⟨y0, hy0⟩ := h3 i d j x hd hx
   have := hc _ (by rw [add_block]; exact hb hd) y0 hy0
   rw [hy] at this
   cases this
   exact ih i d j x y hd hx hy0
theorem rv_hv {h : Nat → Option Obj} {Q F : Nat → Prop} {N : Nm} {nx : Nat} {R : World} (hq : ∀ g, Q g → F g) (hc : ∀ a, Q a.block → ∀ y, celH h a = some y → R.cell? a = some y) {x : A} {y : Value} (hr : Rv h Q x y) : Hv F N nx R x y := by
 induction hr with
 | v x => exact .v x
 | sl ad h1 h2 h3 h4 ih =>
  have hb : ∀ {i : Nat} {d}, _ = some d → Q ad.block := fun {i d} (hd : _[i]? = some d) => (h2 (Nat.lt_of_le_of_lt (Nat.zero_le i) (List.getElem?_eq_some_iff.1 hd).1)).2
  refine .sl ad h1 (fun hp => ⟨(h2 hp).1, hq _ (h2 hp).2⟩) (fun i d j x hd hx => ?_) (fun i d j x y hd hx hy => ?_)
  ·obtain ⟨y, hy⟩ := h3 i d j x hd hx
   exact ⟨y, hc _ (by rw [add_block]; exact hb hd) y hy⟩
  ·obtain ⟨y0, hy0⟩ := h3 i d j x hd hx
   have := hc _ (by rw [add_block]; exact hb hd) y0 hy0
   rw [hy] at this
   cases this
   exact ih i d j x y hd hx hy0
theorem hv_rv {F : Nat → Prop} {N : Nm} {nx : Nat} {R : World} {x : A} {y : Value} (hr : Hv F N nx R x y) : x.plainCell → Rv (fun g => R.heap[g]?) F x y := by
 induction hr with
 | v x => intro _; exact .v x
 | sl ad h1 h2 h3 h4 ih => intro _; exact .sl ad h1 h2 h3 fun i d j x y hd hx hy => ih i d j x y hd hx hy (enc_plain _ _ _ (List.mem_of_getElem? hx))
 | _ => intro hp; exact hp.elim
def nosl : Value → Bool
 | .slice _ _ _ => false
 | _ => true
theorem rv_flat {h h' : Nat → Option Obj} {Q Q' : Nat → Prop} {c : TC} {l : List (U c)} {y : Value} (hq : ∀ g, Q g → Q' g) (hf : ∀ d x, x ∈ enc c d → ∃ v, x = .v v ∧ nosl v = true)
  (hc : ∀ a, Q a.block → ∀ y, celH h a = some y → nosl y = true → celH h' a = some y) (hr : Rv h Q (.sl c l) y) : Rv h' Q' (.sl c l) y := by
 cases hr with
 | sl ad h1 h2 h3 h4 =>
  have hb : ∀ {i : Nat} {d}, l[i]? = some d → Q ad.block := fun {i d} hd => (h2 (Nat.lt_of_le_of_lt (Nat.zero_le i) (List.getElem?_eq_some_iff.1 hd).1)).2
  have key : ∀ (i : Nat) (d : U c) (j : Nat) (x : A), l[i]? = some d → (enc c d)[j]? = some x → ∃ v, x = .v v ∧ celH h' (ad.add (i * size c + j)) = some v := fun i d j x hd hx => by
   obtain ⟨y, hy⟩ := h3 i d j x hd hx
   obtain ⟨v, rfl, hv⟩ := hf d x (List.mem_of_getElem? hx)
   have h5 : y = v := by
    cases h4 i d j _ y hd hx hy
    rfl
   subst h5
   exact ⟨y, rfl, hc _ (by rw [add_block]; exact hb hd) y hy hv⟩
  refine .sl ad h1 (fun hp => ⟨(h2 hp).1, hq _ (h2 hp).2⟩) (fun i d j x hd hx => ?_) (fun i d j x y hd hx hy => ?_)
  ·obtain ⟨v, _, h6⟩ := key i d j x hd hx
   exact ⟨v, h6⟩
  ·obtain ⟨v, rfl, h6⟩ := key i d j x hd hx
   rw [hy] at h6
   cases h6
   exact .v _
theorem flat_str : ∀ (d : U .str) (x : A), x ∈ enc .str d → ∃ v, x = .v v ∧ nosl v = true := fun d x hx => by
 have : x = .v (.string d) := by simpa [enc] using hx
 exact ⟨_, this, rfl⟩
theorem flat_cell : ∀ (d : U .cell) (x : A), x ∈ enc .cell d → ∃ v, x = .v v ∧ nosl v = true := fun d x hx => by
 simp only [enc, List.mem_cons, List.not_mem_nil, or_false] at hx
 rcases hx with rfl | rfl | rfl | rfl | rfl | rfl | rfl | rfl <;> exact ⟨_, rfl, rfl⟩
def one1 : TC → Bool
 | .str => true
 | .cells => true
 | _ => false
def enc1 : (c : TC) → U c → A
 | .str, d => .v (.string d)
 | .cells, d => .sl .cell d
 | _, _ => .dead
theorem enc1_eq {c : TC} (h : one1 c = true) (d : U c) : enc c d = [enc1 c d] ∧ size c = 1 := by cases c <;> first | exact ⟨rfl, rfl⟩ | cases h
theorem rv1_inv {h : Nat → Option Obj} {Q : Nat → Prop} {c : TC} {l : List (U c)} {y : Value} (h1 : one1 c = true) (hr : Rv h Q (.sl c l) y) (hn : 0 < l.length) :
  ∃ g o cap, y = .slice (some ⟨g, o, none⟩) l.length cap ∧ l.length ≤ cap ∧ Q g ∧ ∀ i d, l[i]? = some d → ∃ v, celH h ⟨g, o + i, none⟩ = some v ∧ Rv h Q (enc1 c d) v := by
 cases hr with
 | sl ad k1 k2 k3 k4 =>
  obtain ⟨rfl, hq⟩ := k2 hn
  have at0 : ∀ (i : Nat) (d : U c), l[i]? = some d → ∃ v, celH h (ad.add i) = some v ∧ Rv h Q (enc1 c d) v := fun i d hd => by
   obtain ⟨e1, e2⟩ := enc1_eq h1 d
   obtain ⟨v, hv⟩ := k3 i d 0 (enc1 c d) hd (by rw [e1]; rfl)
   have h5 := k4 i d 0 (enc1 c d) v hd (by rw [e1]; rfl) hv
   rw [e2, Nat.mul_one, Nat.add_zero] at hv
   exact ⟨v, hv, h5⟩
  obtain ⟨d0, hd0⟩ : ∃ d, l[0]? = some d := ⟨l[0], List.getElem?_eq_getElem hn⟩
  obtain ⟨v0, hv0, _⟩ := at0 0 d0 hd0
  rw [add_zero] at hv0
  have hs := celH_spot hv0
  refine ⟨ad.block, ad.off, _, by rw [← addr_eq hs], k1, hq, fun i d hd => ?_⟩
  obtain ⟨v, hv, h6⟩ := at0 i d hd
  rw [addr_eq hs, add_mk] at hv
  exact ⟨v, hv, h6⟩
theorem rv1_mk {h : Nat → Option Obj} {Q : Nat → Prop} {c : TC} {l : List (U c)} {g o cap : Nat} (h1 : one1 c = true) (hc : l.length ≤ cap) (hq : Q g) (hr : ∀ i d, l[i]? = some d → ∃ v, celH h ⟨g, o + i, none⟩ = some v ∧ Rv h Q (enc1 c d) v) :
  Rv h Q (.sl c l) (.slice (some ⟨g, o, none⟩) l.length cap) := by
 have key : ∀ (i : Nat) (d : U c) (j : Nat) (x : A), l[i]? = some d → (enc c d)[j]? = some x → ∃ v, celH h ((⟨g, o, none⟩ : Addr).add (i * size c + j)) = some v ∧ Rv h Q x v := fun i d j x hd hx => by
  obtain ⟨e1, e2⟩ := enc1_eq h1 d
  rw [e1] at hx
  cases j with
  | succ j => cases hx
  | zero =>
   cases hx
   rw [e2, Nat.mul_one, Nat.add_zero, add_mk]
   exact hr i d hd
 exact .sl ⟨g, o, none⟩ hc (fun _ => ⟨rfl, hq⟩) (fun i d j x hd hx => by obtain ⟨v, hv, _⟩ := key i d j x hd hx; exact ⟨v, hv⟩) fun i d j x y hd hx hy => by
  obtain ⟨v, hv, h5⟩ := key i d j x hd hx
  rw [hy] at hv
  cases hv
  exact h5
theorem rv1_part {h : Nat → Option Obj} {Q : Nat → Prop} {c : TC} {l l' : List (U c)} {g o cap cap' k : Nat} (h1 : one1 c = true) (hr : Rv h Q (.sl c l) (.slice (some ⟨g, o, none⟩) l.length cap)) (hn : 0 < l.length) (hl : ∀ i d, l'[i]? = some d → l[k + i]? = some d) (hc : l'.length ≤ cap') :
  Rv h Q (.sl c l') (.slice (some ⟨g, o + k, none⟩) l'.length cap') := by
 obtain ⟨g', o', c', e, _, hq, h5⟩ := rv1_inv h1 hr hn
 cases e
 refine rv1_mk h1 hc hq fun i d hd => ?_
 have := h5 _ d (hl i d hd)
 rwa [← Nat.add_assoc] at this
end Go.Proofs.Ytnfmceffbnaanaa
namespace Go.Proofs.Ytnfmceffbnaanaa
open Go.RowKit
def setR (rows : List TRow) (r : TRow) : List TRow := (rows.filter fun x => kLt x.key r.key) ++ r :: rows.filter fun x => kLt r.key x.key
def dropR (rows : List TRow) (key : ByteArray) : List TRow := (rows.filter fun x => kLt x.key key) ++ rows.filter fun x => kLt key x.key
def hasR (rows : List TRow) (key : ByteArray) : Bool := rows.any fun x => x.key == key
def SortR (rows : List TRow) : Prop := rows.Pairwise fun a b => kLt a.key b.key = true
structure Cut (key : ByteArray) (P S : List TRow) : Prop where
 lo : ∀ x ∈ P, kLt x.key key = true
 hi : ∀ x ∈ S, kLt key x.key = true
theorem filter_all {α : Type} {p : α → Bool} {l : List α} (h : ∀ x ∈ l, p x = true) : l.filter p = l := List.filter_eq_self.2 h
theorem filter_none {α : Type} {p : α → Bool} {l : List α} (h : ∀ x ∈ l, p x = false) : l.filter p = [] := List.filter_eq_nil_iff.2 fun x hx => by rw [h x hx]; decide
theorem cut_lo {key : ByteArray} {P S M : List TRow} (h : Cut key P S) (hM : ∀ x ∈ M, x.key = key) : (P ++ M ++ S).filter (fun x => kLt x.key key) = P := by
 rw [List.filter_append, List.filter_append, filter_all h.lo, filter_none (l := M) (fun x hx => by rw [hM x hx]; exact kLt_irrefl _), filter_none (l := S) (fun x hx => kLt_asymm (h.hi x hx)), List.append_nil, List.append_nil]
theorem cut_hi {key : ByteArray} {P S M : List TRow} (h : Cut key P S) (hM : ∀ x ∈ M, x.key = key) : (P ++ M ++ S).filter (fun x => kLt key x.key) = S := by
 rw [List.filter_append, List.filter_append, filter_all (l := S) h.hi, filter_none (l := M) (fun x hx => by rw [hM x hx]; exact kLt_irrefl _), filter_none (l := P) (fun x hx => kLt_asymm (h.lo x hx)), List.nil_append, List.nil_append]
theorem setR_cut {r : TRow} {P S M : List TRow} (h : Cut r.key P S) (hM : ∀ x ∈ M, x.key = r.key) : setR (P ++ M ++ S) r = P ++ r :: S := by
 unfold setR
 rw [cut_lo h hM, cut_hi h hM]
theorem dropR_cut {key : ByteArray} {P S M : List TRow} (h : Cut key P S) (hM : ∀ x ∈ M, x.key = key) : dropR (P ++ M ++ S) key = P ++ S := by
 unfold dropR
 rw [cut_lo h hM, cut_hi h hM]
theorem rowsOf_app (a b : List TBlock) : rowsOf (a ++ b) = rowsOf a ++ rowsOf b := by unfold rowsOf; exact List.flatMap_append
theorem rowsOf_cons (b : TBlock) (l : List TBlock) : rowsOf (b :: l) = rowsB b ++ rowsOf l := rfl
theorem rowsB_app {k1 k2 : List ByteArray} {v1 v2 : List (List TCell)} (h : k1.length = v1.length) : rowsB ⟨k1 ++ k2, v1 ++ v2⟩ = rowsB ⟨k1, v1⟩ ++ rowsB ⟨k2, v2⟩ := by
 unfold rowsB
 rw [List.zip_append h, List.map_append]
theorem rowsB_cons (k : ByteArray) (ks : List ByteArray) (v : List TCell) (vs : List (List TCell)) : rowsB ⟨k :: ks, v :: vs⟩ = ⟨k, v⟩ :: rowsB ⟨ks, vs⟩ := rfl
theorem rowsB_mem {b : TBlock} {x : TRow} (h : x ∈ rowsB b) : x.key ∈ b.keys := by
 unfold rowsB at h
 obtain ⟨p, hp, rfl⟩ := List.mem_map.1 h
 exact (List.of_mem_zip hp).1
theorem rowsOf_mem {bs : List TBlock} {x : TRow} (h : x ∈ rowsOf bs) : x.key ∈ bs.flatMap TBlock.keys := by
 unfold rowsOf at h
 obtain ⟨b, hb, hx⟩ := List.mem_flatMap.1 h
 exact List.mem_flatMap.2 ⟨b, hb, rowsB_mem hx⟩
theorem rowsB_keys {b : TBlock} (h : b.keys.length = b.vals.length) : (rowsB b).map (·.key) = b.keys := by
 unfold rowsB
 rw [List.map_map]
 exact List.map_fst_zip (Nat.le_of_eq h)
theorem rowsOf_keys : ∀ {bs : List TBlock}, (∀ b ∈ bs, b.keys.length = b.vals.length) → (rowsOf bs).map (·.key) = bs.flatMap TBlock.keys
 | [], _ => rfl
 | b :: bs, h => by
  rw [rowsOf_cons, List.map_append, rowsB_keys (h b (List.mem_cons_self ..)), rowsOf_keys fun c hc => h c (List.mem_cons_of_mem _ hc)]
  rfl
theorem GoodB.sort {bs : List TBlock} (h : GoodB bs) : SortR (rowsOf bs) := by
 have := h.ord
 rw [← rowsOf_keys fun b hb => (h.len b hb).1] at this
 exact List.pairwise_map.1 this
inductive AtCase (bs : List TBlock) (key : ByteArray) : Prop
 | hit (A C : List TBlock) (k1 k2 : List ByteArray) (v1 v2 : List (List TCell)) (v : List TCell) (e : bs = A ++ ⟨k1 ++ key :: k2, v1 ++ v :: v2⟩ :: C) (l1 : k1.length = v1.length) (l2 : k2.length = v2.length)
   (ea : atI bs key = (A.length, k1.length, true)) (lo : ∀ x ∈ A.flatMap TBlock.keys ++ k1, kLt x key = true) (hi : ∀ x ∈ k2 ++ C.flatMap TBlock.keys, kLt key x = true)
 | mid (A C : List TBlock) (k1 k2 : List ByteArray) (v1 v2 : List (List TCell)) (e : bs = A ++ ⟨k1 ++ k2, v1 ++ v2⟩ :: C) (l1 : k1.length = v1.length) (l2 : k2.length = v2.length) (l3 : 0 < k2.length)
   (ea : atI bs key = (A.length, k1.length, false)) (lo : ∀ x ∈ A.flatMap TBlock.keys ++ k1, kLt x key = true) (hi : ∀ x ∈ k2 ++ C.flatMap TBlock.keys, kLt key x = true)
 | all (ea : atI bs key = (bs.length, 0, false)) (lo : ∀ x ∈ bs.flatMap TBlock.keys, kLt x key = true)
theorem at_case {bs : List TBlock} (h : GoodB bs) (key : ByteArray) : AtCase bs key := by
 by_cases hi : blkI bs key < bs.length
 ·have hj := keyI_lt h hi
  have hbl : Nat.blt (blkI bs key) bs.length = true := Nat.ble_eq_true_of_le hi
  have hA : (bs.take (blkI bs key)).length = blkI bs key := by rw [List.length_take]; omega
  have hbs : bs = bs.take (blkI bs key) ++ blkN bs (blkI bs key) :: bs.drop (blkI bs key + 1) := by
   rw [blkN_at hi, ← List.drop_eq_getElem_cons hi, List.take_append_drop]
  generalize hA' : bs.take (blkI bs key) = A at *
  generalize hC' : bs.drop (blkI bs key + 1) = C at *
  generalize hb' : blkN bs (blkI bs key) = b at *
  have hbl2 : b.keys.length = b.vals.length := by rw [← hb']; exact (h.at hi).1
  have hk : b.keys = b.keys.take (keyI b.keys key) ++ keyN b.keys (keyI b.keys key) :: b.keys.drop (keyI b.keys key + 1) := by
   rw [keyN_at hj, ← List.drop_eq_getElem_cons hj, List.take_append_drop]
  have hv : ∃ v, b.vals = b.vals.take (keyI b.keys key) ++ v :: b.vals.drop (keyI b.keys key + 1) := ⟨b.vals[keyI b.keys key]'(by omega), by rw [← List.drop_eq_getElem_cons (by omega), List.take_append_drop]⟩
  obtain ⟨v, hv⟩ := hv
  have hl1 : (b.keys.take (keyI b.keys key)).length = keyI b.keys key := by rw [List.length_take]; omega
  have hl2 : (b.vals.take (keyI b.keys key)).length = keyI b.keys key := by rw [List.length_take]; omega
  have hl3 : (b.keys.drop (keyI b.keys key + 1)).length = (b.vals.drop (keyI b.keys key + 1)).length := by rw [List.length_drop, List.length_drop]; omega
  have ord := h.ord
  have hkeys : bs.flatMap TBlock.keys = A.flatMap TBlock.keys ++ (b.keys ++ C.flatMap TBlock.keys) := by rw [hbs, List.flatMap_append, List.flatMap_cons]
  rw [hkeys] at ord
  have ordb := (List.pairwise_append.1 (List.pairwise_append.1 ord).2.1).1
  have loA : ∀ x ∈ A.flatMap TBlock.keys ++ b.keys.take (keyI b.keys key), kLt x key = true := fun x hx => by
   rcases List.mem_append.1 hx with hx | hx
   ·obtain ⟨c, hc, hxc⟩ := List.mem_flatMap.1 hx
    rw [← hA'] at hc
    obtain ⟨i, hilt, hci⟩ := List.mem_take_iff_getElem.1 hc
    have hi2 : i < bs.length := by omega
    have h2 := fstN_no (p := fun i => !kLt (lastK (blkN bs i)) key) (n := bs.length) (i := i) (show i < blkI bs key by omega)
    have h3 : kLt (lastK c) key = true := by
     have h2' : (!kLt (lastK (blkN bs i)) key) = false := h2
     rw [blkN_at hi2, hci] at h2'
     simpa using h2'
    have hgc := h.at hi2
    have hkc := h.keys hi2
    rw [blkN_at hi2, hci] at hgc hkc
    obtain ⟨q, hq, rfl⟩ := List.getElem_of_mem hxc
    rcases Nat.lt_or_ge q (c.keys.length - 1) with h4 | h4
    ·have := pairwise_keys hkc h4 (by omega)
     rw [keyN_at hq] at this
     exact kLt_trans this h3
    ·have h5 : c.keys[q] = lastK c := by unfold lastK; rw [keyN_at (by omega)]; congr 1; omega
     rw [h5]; exact h3
   ·obtain ⟨q, hq, rfl⟩ := List.mem_take_iff_getElem.1 hx
    have h2 := fstN_no (p := fun i => !kLt (keyN b.keys i) key) (n := b.keys.length) (i := q) (show q < keyI b.keys key by omega)
    have h2' : (!kLt (keyN b.keys q) key) = false := h2
    rw [keyN_at (by omega)] at h2'
    simpa using h2'
  have hge : kLt (keyN b.keys (keyI b.keys key)) key = false := by
   have h2 := fstN_at (p := fun i => !kLt (keyN b.keys i) key) (n := b.keys.length) hj
   have h2' : (!kLt (keyN b.keys (keyI b.keys key)) key) = true := h2
   simpa using h2'
  have hiC : ∀ x ∈ b.keys.drop (keyI b.keys key + 1) ++ C.flatMap TBlock.keys, kLt (keyN b.keys (keyI b.keys key)) x = true := fun x hx => by
   have o2 := (List.pairwise_append.1 ord).2.1
   rw [hk, List.append_assoc] at o2
   have o3 := (List.pairwise_append.1 o2).2.1
   rw [List.cons_append] at o3
   exact (List.pairwise_cons.1 o3).1 x hx
  have hat : atI bs key = (A.length, (b.keys.take (keyI b.keys key)).length, keyN b.keys (keyI b.keys key) == key) := by
   unfold atI
   rw [hbl, cond_true, hb', hA, hl1]
  cases hq : keyN b.keys (keyI b.keys key) == key with
  | true =>
   have hqe := eq_of_beq hq
   rw [hq] at hat
   rw [hqe] at hk hiC
   refine .hit A C _ _ _ _ v ?_ (by rw [hl1, hl2]) hl3 hat loA hiC
   rw [hbs]
   congr 2
   cases b
   exact congr (congrArg TBlock.mk hk) hv
  | false =>
   have hlt : kLt key (keyN b.keys (keyI b.keys key)) = true := kLt_total hge fun e => by rw [e, beq_self_eq_true] at hq; cases hq
   rw [hq] at hat
   refine .mid A C (b.keys.take (keyI b.keys key)) (keyN b.keys (keyI b.keys key) :: b.keys.drop (keyI b.keys key + 1)) (b.vals.take (keyI b.keys key)) (v :: b.vals.drop (keyI b.keys key + 1)) ?_ (by rw [hl1, hl2]) (by simp [hl3]) (by simp) hat loA (fun x hx => ?_)
   ·rw [hbs]
    congr 2
    cases b
    exact congr (congrArg TBlock.mk hk) hv
   ·rw [List.cons_append] at hx
    rcases List.mem_cons.1 hx with rfl | hx
    ·exact hlt
    ·exact kLt_trans hlt (hiC x hx)
 ·have hle := fstN_le (fun i => !kLt (lastK (blkN bs i)) key) bs.length
  have he : blkI bs key = bs.length := by have : blkI bs key ≤ bs.length := hle; omega
  have hbl : Nat.blt (blkI bs key) bs.length = false := by
   cases hq : Nat.blt (blkI bs key) bs.length with
   | false => rfl
   | true => exact absurd (Nat.le_of_ble_eq_true hq) hi
  refine .all (by unfold atI; rw [hbl, he]; rfl) fun x hx => ?_
  obtain ⟨c, hc, hxc⟩ := List.mem_flatMap.1 hx
  obtain ⟨i, hi2, hci⟩ := List.getElem_of_mem hc
  have h2 := fstN_no (p := fun i => !kLt (lastK (blkN bs i)) key) (n := bs.length) (i := i) (show i < blkI bs key by omega)
  have h3 : kLt (lastK c) key = true := by
   have h2' : (!kLt (lastK (blkN bs i)) key) = false := h2
   rw [blkN_at hi2, hci] at h2'
   simpa using h2'
  have hgc := h.at hi2
  have hkc := h.keys hi2
  rw [blkN_at hi2, hci] at hgc hkc
  obtain ⟨q, hq, rfl⟩ := List.getElem_of_mem hxc
  rcases Nat.lt_or_ge q (c.keys.length - 1) with h4 | h4
  ·have := pairwise_keys hkc h4 (by omega)
   rw [keyN_at hq] at this
   exact kLt_trans this h3
  ·have h5 : c.keys[q] = lastK c := by unfold lastK; rw [keyN_at (by omega)]; congr 1; omega
   rw [h5]; exact h3
theorem good_put {A C new : List TBlock} {old : List TBlock} (h : GoodB (A ++ old ++ C)) {K : List ByteArray} (hn : ∀ b ∈ new, b.keys.length = b.vals.length ∧ 0 < b.keys.length) (hk : new.flatMap TBlock.keys = K)
  (ho : (A.flatMap TBlock.keys ++ K ++ C.flatMap TBlock.keys).Pairwise fun a b => kLt a b = true) : GoodB (A ++ new ++ C) :=
 ⟨fun b hb => by
  rcases List.mem_append.1 hb with hb | hb
  ·rcases List.mem_append.1 hb with hb | hb
   ·exact h.len b (List.mem_append.2 (.inl (List.mem_append.2 (.inl hb))))
   ·exact hn b hb
  ·exact h.len b (List.mem_append.2 (.inr hb)), by rw [List.flatMap_append, List.flatMap_append, hk]; exact ho⟩
theorem pw_mid {l r : List ByteArray} {key : ByteArray} (h : (l ++ r).Pairwise fun a b => kLt a b = true) (lo : ∀ x ∈ l, kLt x key = true) (hi : ∀ x ∈ r, kLt key x = true) : (l ++ key :: r).Pairwise fun a b => kLt a b = true := by
 obtain ⟨h1, h2, h3⟩ := List.pairwise_append.1 h
 exact List.pairwise_append.2 ⟨h1, List.pairwise_cons.2 ⟨hi, h2⟩, fun a ha b hb => by
  rcases List.mem_cons.1 hb with rfl | hb
  ·exact lo a ha
  ·exact h3 a ha b hb⟩
end Go.Proofs.Ytnfmceffbnaanaa
namespace Go.Proofs.Ytnfmceffbnaanaa
open Go.RowKit Go.BigFrame
section
variable {P : Program} (w : World)
theorem run_append_new (t ty e : TypeId) (i : TypeInfo) (z : Value) (size bytes : Nat) (ht : P.underlying t = some (.slice e)) (hi : P.info? e = some i) (hz : i.zero = some z)
  (hsize : i.size = size) (hby : i.bytes = bytes) (hzs : z.cells.size = size)
  (b : Addr) (n cap : Nat) (olds : List Value) (hlo : olds.length = n * size) (holds : ∀ j v, olds[j]? = some v → w.cell? (b.add j) = some v)
  (a : Addr) (m c : Nat) (news : List Value) (hl : news.length = m * size) (hnews : ∀ j v, news[j]? = some v → w.cell? (a.add j) = some v)
  (hg : cap < n + m) (h63 : n + m ≤ maxLen) (hbytes : (n + m) * bytes ≤ 140737488355328) :
  ∃ v' w', (Builtin.append_ #[t, t] ty #[.slice (some b) n cap, .slice (some a) m c]).run P w = .ok v' w' ∧ w'.ownsRow w.heap.size e size v' (n + m) (olds ++ news) ∧ Below w.heap.size w w' ∧ v'.ownBlock = some w.heap.size ∧ w'.heap.size = w.heap.size + 1 := by
 subst hsize
 subst hby
 have hsmall : n + m ≤ 9223372036854775807 := by simp only [maxLen] at h63; omega
 have hlen : (olds ++ news).length = (n + m) * i.size := by rw [List.length_append, hlo, hl, Nat.add_mul]
 have hr := run_append_grow (P := P) w t ty e i z ht hi hz b n cap olds hlo holds a m c news hl hnews hg (by omega) (growslice_fits hg hbytes)
 have hge := grownCap_ge w (n + m) cap e
 have hcm : grownCap w (n + m) cap e ≤ maxLen := grownCap_le_maxLen w (n + m) cap e h63
 refine ⟨_, _, hr, ⟨hlen, .inr ⟨w.heap.size, _, _, rfl, Nat.le_refl _, heap_alloc_new w.drew _, hge, hcm, ?_, ?_⟩⟩, ⟨rfl, rfl, rfl, by simp, fun k hk => heap_alloc_old w.drew _ hk⟩, rfl, by simp⟩
 ·simp only [Array.size_append, List.size_toArray, size_zeroCells, hzs, hlo, hl, ← Nat.add_mul]
  congr 1
  omega
 ·simp only [Array.toList_append, List.append_assoc]
  rw [← List.append_assoc, ← hlen]
  exact List.take_left
theorem wpList_append_new {ops : Array Oper} {rest : List Oper} {o : Oper} {a : Act} {Q : Exit → Act → World → Prop} (hgd : o.guard = none) (s x : Operand) (t : TypeId)
  (ho : o.op = .call { callee := .builtin .append, args := #[s, x], argTypes := #[t, t] })
  (e : TypeId) (z : Value) (size bytes : Nat) (ht : P.underlying t = some (.slice e)) (hI : (P.info? e).map (fun i => (i.zero, i.size, i.bytes)) = some (some z, size, bytes)) (hzs : z.cells.size = size)
  (b : Addr) (n cap : Nat) (olds : List Value) (hs : a.eval s = .slice (some b) n cap) (hlo : olds.length = n * size) (holds : ∀ j v, olds[j]? = some v → w.cell? (b.add j) = some v)
  (ad : Addr) (m c : Nat) (news : List Value) (hx : a.eval x = .slice (some ad) m c) (hl : news.length = m * size) (hnews : ∀ j v, news[j]? = some v → w.cell? (ad.add j) = some v)
  (hg : cap < n + m) (h63 : n + m ≤ maxLen) (hbytes : (n + m) * bytes ≤ 140737488355328)
  (h : ∀ v' w', w'.ownsRow w.heap.size e size v' (n + m) (olds ++ news) → Below w.heap.size w w' → v'.ownBlock = some w.heap.size → w'.heap.size = w.heap.size + 1 → wpList P ops Q rest (a.put o.dst v') w') :
  wpList P ops Q (o :: rest) a w := by
 refine wpList_plain hgd fun K hK => ?_
 cases hi : P.info? e with
 | none => rw [hi] at hI; cases hI
 | some i =>
  rw [hi] at hI
  injection hI with hI
  injection hI with q1 hI
  injection hI with q2 q3
  obtain ⟨v', w', hr, h2, h3, h4, h5⟩ := run_append_new (P := P) w t o.type e i z size bytes ht hi q1 q2 q3 hzs b n cap olds hlo holds ad m c news hl hnews hg h63 hbytes
  unfold Oper.wp execOp
  simp only [ho, resolve, invoke, builtin, Sem.run_bind, Sem.run_pure, Result.andThen_ok, List.map_toArray, List.map_cons, List.map_nil, hs, hx, hr]
  exact hK _ _ (h v' w' h2 h3 h4 h5)
theorem run_append_none (t ty e : TypeId) (i : TypeInfo) (ht : P.underlying t = some (.slice e)) (hi : P.info? e = some i) (v : Option Addr) (n cap : Nat) (x : Option Addr) (c : Nat) (hn : n ≤ cap) :
  (Builtin.append_ #[t, t] ty #[.slice v n cap, .slice x 0 c]).run P w = .ok (.slice v n cap) w := by
 cases x <;> cases v <;> simp [Builtin.append_, run_underlying ht, sizeOf, typeInfo, hi, Builtin.lenOf, Builtin.firstCells, loadCells, loadCellsFrom, storeCells, hn]
end
theorem info_of {P : Program} {e : TypeId} {z : Value} {s b : Nat} (hI : (P.info? e).map (fun i => (i.zero, i.size, i.bytes)) = some (some z, s, b)) : ∃ i, P.info? e = some i ∧ i.zero = some z ∧ i.size = s ∧ i.bytes = b := by
 cases hi : P.info? e with
 | none => rw [hi] at hI; cases hI
 | some i =>
  rw [hi] at hI
  injection hI with hI
  injection hI with q1 hI
  injection hI with q2 q3
  exact ⟨i, rfl, q1, q2, q3⟩
theorem ownsRow_mono {w : World} {b b' : Nat} {e : TypeId} {s : Nat} {v : Value} {n : Nat} {xs : List Value} (h : w.ownsRow b e s v n xs) (hb : b' ≤ b) : w.ownsRow b' e s v n xs := by
 refine ⟨h.1, ?_⟩
 rcases h.2 with h1 | ⟨g, cap, cur, h1, h2, h3⟩
 ·exact .inl h1
 ·exact .inr ⟨g, cap, cur, h1, Nat.le_trans hb h2, h3⟩
theorem take_get? {xs : List Value} {m j : Nat} {v : Value} (h : (xs.take m)[j]? = some v) : xs[j]? = some v := by
 rw [List.getElem?_take] at h
 split at h
 ·exact h
 ·cases h
theorem drop_cells {W : World} {g off m : Nat} {xs : List Value} (hx : ∀ j v, xs[j]? = some v → W.cell? ((⟨g, off, none⟩ : Addr).add j) = some v) : ∀ j v, (xs.drop m)[j]? = some v → W.cell? ((⟨g, off + m, none⟩ : Addr).add j) = some v := fun j v h => by
 rw [List.getElem?_drop] at h
 have := hx (m + j) v h
 rw [add_mk] at this
 rw [add_mk, Nat.add_assoc]
 exact this
theorem cells_below {W W' : World} {g off : Nat} {xs : List Value} (hb : Below W.heap.size W W') (hg : g < W.heap.size) (hx : ∀ j v, xs[j]? = some v → W.cell? ((⟨g, off, none⟩ : Addr).add j) = some v) : ∀ j v, xs[j]? = some v → W'.cell? ((⟨g, off, none⟩ : Addr).add j) = some v := fun j v h => by
 rw [hb.cell (p := (⟨g, off, none⟩ : Addr).add j) (by rw [add_block]; exact hg)]
 exact hx j v h
theorem cells_new (w : World) (vs : List Value) (t : TypeId) : ∀ j u, vs[j]? = some u → (w.alloc (.cells vs.toArray t)).cell? ((⟨w.heap.size, 0, none⟩ : Addr).add j) = some u := fun j u hj => by
 rw [add_mk, Nat.zero_add]
 unfold World.cell?
 rw [show (w.alloc (.cells vs.toArray t)).heap[w.heap.size]? = some (.cells vs.toArray t (0, 0)) from heap_alloc_new w _]
 simpa using hj
theorem cell_grown {w w' : World} {b o : Nat} {v : Value} (hg : w.grownBy w' none) (hb : b < w.heap.size) (h : w.cell? ⟨b, o, none⟩ = some v) : w'.cell? ⟨b, o, none⟩ = some v := by
 unfold World.cell? at h ⊢
 rw [show w'.heap[b]? = w.heap[b]? from hg.block b hb (fun e => by cases e)]
 exact h
theorem blw_none {W A W1 : World} (h : Below W.heap.size W A) (hg : A.grownBy W1 none) : Below W.heap.size W W1 :=
 h.trans ⟨hg.os, hg.tape, hg.output, hg.size, fun k hk => hg.block k (Nat.lt_of_lt_of_le hk h.size) fun e => by cases e⟩
theorem blw_own {W W1 W2 : World} {e : TypeId} {s : Nat} {v : Value} {n : Nat} {xs : List Value} (h : Below W.heap.size W W1) (ho : W1.ownsRow W.heap.size e s v n xs) (hg : W1.grownBy W2 v.ownBlock) : Below W.heap.size W W2 :=
 h.trans ⟨hg.os, hg.tape, hg.output, hg.size, fun k hk => hg.block k (Nat.lt_of_lt_of_le hk h.size) fun e => by
  rcases ho.2 with ⟨e1, _⟩ | ⟨g, cap, cur, e1, e2, _⟩
  ·rw [e1] at e; cases e
  ·rw [e1] at e
   have e' : some k = some g := e
   injection e' with e'
   omega⟩
theorem blw_grow {W A W1 W2 : World} {v : Value} (h1 : Below W.heap.size W A) (hb : Below A.heap.size A W1) (hv : v.ownBlock = some A.heap.size) (hg : W1.grownBy W2 v.ownBlock) : Below W.heap.size W W2 :=
 (h1.trans (hb.mono h1.size)).trans ⟨hg.os, hg.tape, hg.output, hg.size, fun k hk => hg.block k (Nat.lt_of_lt_of_le hk (Nat.le_trans h1.size hb.size)) fun e => by
  rw [hv] at e
  cases e
  exact absurd hk (by have := h1.size; omega)⟩
set_option maxHeartbeats 1000000 in
theorem insS_lt (W : World) (g off n cap k : Nat) (xs : List Value) (key : ByteArray) (hk : k ≤ n) (hne : ¬ cap = k) (hn : n ≤ cap) (hg : g < W.heap.size) (HL : Hid (xs.length = n * 1)) (HX : Hid (∀ j v, xs[j]? = some v → W.cell? ((⟨g, off, none⟩ : Addr).add j) = some v)) (H1 : Hid (∀ v ∈ xs, v.oneCell' = true)) (hb : n ≤ 1099511627776) :
  Calls Try.prog 33 #[.slice (some ⟨g, off, none⟩) n cap, .int .i64 (k : Int), .string key] W fun e W' => ∃ y, e = .returned y ∧ Below W.heap.size W W' ∧ W'.ownsRow W.heap.size 9 1 y (n + 1) (xs.take k ++ [.string key] ++ xs.drop k) := by
 obtain ⟨iS, hi1, hi2, hi3, hi4⟩ := info_of (P := Try.prog) (e := 9) (z := (.string ⟨#[]⟩)) (s := 1) (b := 16) (by kernel_rfl)
 go_enter Try.func33, Try.ntmps33
 go_wp2_with (first
  | (at_builtin; refine wpList_append_new _ rfl _ _ 40 rfl 9 (.string ⟨#[]⟩) 1 16 Try.underlying40 (by kernel_rfl) rfl ⟨g, off, none⟩ k k (xs.take k) rfl (by have := HL.out; rw [List.length_take]; omega) (fun j v h => cells_below ((Below.refl _ W).alloc (Nat.le_refl _) _) hg HX.out j v (take_get? h)) ⟨W.heap.size, 0, none⟩ 1 1 [.string key] rfl rfl (cells_new _ [.string key] _) (by omega) (by unfold maxLen; omega) (by omega) ?_; intro v1 W1 ho1 hb1 hv1 hs1; have HO1 := Lib.hid ho1; clear ho1)
  | (at_builtin; (refine wpList_append_own_at _ rfl _ _ 40 rfl W.heap.size 9 iS (.string ⟨#[]⟩) 1 16 Try.underlying40 hi1 hi2 hi3 hi4 rfl (by decide) v1 (k + 1) (xs.take k ++ [.string key]) rfl (ownsRow_mono HO1.out (by simp)) ⟨g, off + k, none⟩ (n - k) (cap - k) (xs.drop k) rfl (by have := HL.out; rw [List.length_drop]; omega) (drop_cells (cells_below (((Below.refl _ W).alloc (Nat.le_refl _) _).trans (hb1.mono (by simp))) hg HX.out)) (fun v hv => H1.out v (List.mem_of_mem_drop hv)) (by unfold maxLen; omega) (by omega) (by have := hb1.size; simp at this; omega) ?_); intro v2 W2 ho2 hg2 hn2 ha2; have HO2 := Lib.hid ho2; have HG2 := Lib.hid hg2; clear ho2 hg2 hn2 ha2))
 go_ret
 refine ⟨v2, rfl, blw_grow ((Below.refl _ W).alloc (Nat.le_refl _) _) hb1 hv1 HG2.out, ?_⟩
 have := HO2.out
 rw [show k + 1 + (n - k) = n + 1 from by omega] at this
 exact this
set_option maxHeartbeats 1000000 in
theorem insS_eq (W : World) (g off n : Nat) (xs : List Value) (key : ByteArray) (hg : g < W.heap.size) (HL : Hid (xs.length = n * 1)) (HX : Hid (∀ j v, xs[j]? = some v → W.cell? ((⟨g, off, none⟩ : Addr).add j) = some v)) (hb : n ≤ 1099511627776) :
  Calls Try.prog 33 #[.slice (some ⟨g, off, none⟩) n n, .int .i64 (n : Int), .string key] W fun e W' => ∃ y, e = .returned y ∧ Below W.heap.size W W' ∧ W'.ownsRow W.heap.size 9 1 y (n + 1) (xs ++ [.string key]) := by
 obtain ⟨iS, hi1, hi2, hi3, hi4⟩ := info_of (P := Try.prog) (e := 9) (z := (.string ⟨#[]⟩)) (s := 1) (b := 16) (by kernel_rfl)
 go_enter Try.func33, Try.ntmps33
 go_wp2_with (first
  | (at_builtin; refine wpList_append_new _ rfl _ _ 40 rfl 9 (.string ⟨#[]⟩) 1 16 Try.underlying40 (by kernel_rfl) rfl ⟨g, off, none⟩ n n xs rfl HL.out (fun j v h => cells_below ((Below.refl _ W).alloc (Nat.le_refl _) _) hg HX.out j v h) ⟨W.heap.size, 0, none⟩ 1 1 [.string key] rfl rfl (cells_new _ [.string key] _) (by omega) (by unfold maxLen; omega) (by omega) ?_; intro v1 W1 ho1 hb1 hv1 hs1; have HO1 := Lib.hid ho1; clear ho1)
  | (at_builtin; (refine wpList_append_own_at _ rfl _ _ 40 rfl W.heap.size 9 iS (.string ⟨#[]⟩) 1 16 Try.underlying40 hi1 hi2 hi3 hi4 rfl (by decide) v1 (n + 1) (xs ++ [.string key]) rfl (ownsRow_mono HO1.out (by simp)) ⟨g, off, none⟩ 0 0 [] rfl rfl (fun j v h => by cases h) (fun v hv => by cases hv) (by unfold maxLen; omega) (by omega) (by have := hb1.size; simp at this; omega) ?_); intro v2 W2 ho2 hg2 hn2 ha2; have HO2 := Lib.hid ho2; have HG2 := Lib.hid hg2; clear ho2 hg2 hn2 ha2))
 go_ret
 refine ⟨v2, rfl, blw_grow ((Below.refl _ W).alloc (Nat.le_refl _) _) hb1 hv1 HG2.out, ?_⟩
 have := HO2.out
 rwa [List.append_nil] at this
theorem insS_calls (W : World) (g off n cap k : Nat) (xs : List Value) (key : ByteArray) (hk : k ≤ n) (hn : n ≤ cap) (hg : g < W.heap.size) (hl : xs.length = n * 1) (hx : ∀ j v, xs[j]? = some v → W.cell? ((⟨g, off, none⟩ : Addr).add j) = some v) (h1 : ∀ v ∈ xs, v.oneCell' = true) (hb : n ≤ 1099511627776) :
  Calls Try.prog 33 #[.slice (some ⟨g, off, none⟩) n cap, .int .i64 (k : Int), .string key] W fun e W' => ∃ y, e = .returned y ∧ Below W.heap.size W W' ∧ W'.ownsRow W.heap.size 9 1 y (n + 1) (xs.take k ++ [.string key] ++ xs.drop k) := by
 by_cases hne : cap = k
 ·obtain rfl : n = k := by omega
  obtain rfl : n = cap := by omega
  rw [List.take_of_length_le (by omega), List.drop_eq_nil_of_le (by omega), List.append_nil]
  exact insS_eq W g off n xs _ hg hl hx hb
 ·exact insS_lt W g off n cap k xs _ hk hne hn hg hl hx h1 hb
set_option maxHeartbeats 1000000 in
theorem insV_lt (W : World) (g off n cap k : Nat) (xs : List Value) (va : Option Addr) (vn vc : Nat) (hk : k ≤ n) (hne : ¬ cap = k) (hn : n ≤ cap) (hg : g < W.heap.size) (HL : Hid (xs.length = n * 1)) (HX : Hid (∀ j v, xs[j]? = some v → W.cell? ((⟨g, off, none⟩ : Addr).add j) = some v)) (H1 : Hid (∀ v ∈ xs, v.oneCell' = true)) (hb : n ≤ 1099511627776) :
  Calls Try.prog 34 #[.slice (some ⟨g, off, none⟩) n cap, .int .i64 (k : Int), .slice va vn vc] W fun e W' => ∃ y, e = .returned y ∧ Below W.heap.size W W' ∧ W'.ownsRow W.heap.size 27 1 y (n + 1) (xs.take k ++ [.slice va vn vc] ++ xs.drop k) := by
 obtain ⟨iS, hi1, hi2, hi3, hi4⟩ := info_of (P := Try.prog) (e := 27) (z := (.slice none 0 0)) (s := 1) (b := 24) (by kernel_rfl)
 go_enter Try.func34, Try.ntmps34
 go_wp2_with (first
  | (at_builtin; refine wpList_append_new _ rfl _ _ 73 rfl 27 (.slice none 0 0) 1 24 Try.underlying73 (by kernel_rfl) rfl ⟨g, off, none⟩ k k (xs.take k) rfl (by have := HL.out; rw [List.length_take]; omega) (fun j v h => cells_below ((Below.refl _ W).alloc (Nat.le_refl _) _) hg HX.out j v (take_get? h)) ⟨W.heap.size, 0, none⟩ 1 1 [.slice va vn vc] rfl rfl (cells_new _ [.slice va vn vc] _) (by omega) (by unfold maxLen; omega) (by omega) ?_; intro v1 W1 ho1 hb1 hv1 hs1; have HO1 := Lib.hid ho1; clear ho1)
  | (at_builtin; (refine wpList_append_own_at _ rfl _ _ 73 rfl W.heap.size 27 iS (.slice none 0 0) 1 24 Try.underlying73 hi1 hi2 hi3 hi4 rfl (by decide) v1 (k + 1) (xs.take k ++ [.slice va vn vc]) rfl (ownsRow_mono HO1.out (by simp)) ⟨g, off + k, none⟩ (n - k) (cap - k) (xs.drop k) rfl (by have := HL.out; rw [List.length_drop]; omega) (drop_cells (cells_below (((Below.refl _ W).alloc (Nat.le_refl _) _).trans (hb1.mono (by simp))) hg HX.out)) (fun v hv => H1.out v (List.mem_of_mem_drop hv)) (by unfold maxLen; omega) (by omega) (by have := hb1.size; simp at this; omega) ?_); intro v2 W2 ho2 hg2 hn2 ha2; have HO2 := Lib.hid ho2; have HG2 := Lib.hid hg2; clear ho2 hg2 hn2 ha2))
 go_ret
 refine ⟨v2, rfl, blw_grow ((Below.refl _ W).alloc (Nat.le_refl _) _) hb1 hv1 HG2.out, ?_⟩
 have := HO2.out
 rw [show k + 1 + (n - k) = n + 1 from by omega] at this
 exact this
set_option maxHeartbeats 1000000 in
theorem insV_eq (W : World) (g off n : Nat) (xs : List Value) (va : Option Addr) (vn vc : Nat) (hg : g < W.heap.size) (HL : Hid (xs.length = n * 1)) (HX : Hid (∀ j v, xs[j]? = some v → W.cell? ((⟨g, off, none⟩ : Addr).add j) = some v)) (hb : n ≤ 1099511627776) :
  Calls Try.prog 34 #[.slice (some ⟨g, off, none⟩) n n, .int .i64 (n : Int), .slice va vn vc] W fun e W' => ∃ y, e = .returned y ∧ Below W.heap.size W W' ∧ W'.ownsRow W.heap.size 27 1 y (n + 1) (xs ++ [.slice va vn vc]) := by
 obtain ⟨iS, hi1, hi2, hi3, hi4⟩ := info_of (P := Try.prog) (e := 27) (z := (.slice none 0 0)) (s := 1) (b := 24) (by kernel_rfl)
 go_enter Try.func34, Try.ntmps34
 go_wp2_with (first
  | (at_builtin; refine wpList_append_new _ rfl _ _ 73 rfl 27 (.slice none 0 0) 1 24 Try.underlying73 (by kernel_rfl) rfl ⟨g, off, none⟩ n n xs rfl HL.out (fun j v h => cells_below ((Below.refl _ W).alloc (Nat.le_refl _) _) hg HX.out j v h) ⟨W.heap.size, 0, none⟩ 1 1 [.slice va vn vc] rfl rfl (cells_new _ [.slice va vn vc] _) (by omega) (by unfold maxLen; omega) (by omega) ?_; intro v1 W1 ho1 hb1 hv1 hs1; have HO1 := Lib.hid ho1; clear ho1)
  | (at_builtin; (refine wpList_append_own_at _ rfl _ _ 73 rfl W.heap.size 27 iS (.slice none 0 0) 1 24 Try.underlying73 hi1 hi2 hi3 hi4 rfl (by decide) v1 (n + 1) (xs ++ [.slice va vn vc]) rfl (ownsRow_mono HO1.out (by simp)) ⟨g, off, none⟩ 0 0 [] rfl rfl (fun j v h => by cases h) (fun v hv => by cases hv) (by unfold maxLen; omega) (by omega) (by have := hb1.size; simp at this; omega) ?_); intro v2 W2 ho2 hg2 hn2 ha2; have HO2 := Lib.hid ho2; have HG2 := Lib.hid hg2; clear ho2 hg2 hn2 ha2))
 go_ret
 refine ⟨v2, rfl, blw_grow ((Below.refl _ W).alloc (Nat.le_refl _) _) hb1 hv1 HG2.out, ?_⟩
 have := HO2.out
 rwa [List.append_nil] at this
theorem insV_calls (W : World) (g off n cap k : Nat) (xs : List Value) (va : Option Addr) (vn vc : Nat) (hk : k ≤ n) (hn : n ≤ cap) (hg : g < W.heap.size) (hl : xs.length = n * 1) (hx : ∀ j v, xs[j]? = some v → W.cell? ((⟨g, off, none⟩ : Addr).add j) = some v) (h1 : ∀ v ∈ xs, v.oneCell' = true) (hb : n ≤ 1099511627776) :
  Calls Try.prog 34 #[.slice (some ⟨g, off, none⟩) n cap, .int .i64 (k : Int), .slice va vn vc] W fun e W' => ∃ y, e = .returned y ∧ Below W.heap.size W W' ∧ W'.ownsRow W.heap.size 27 1 y (n + 1) (xs.take k ++ [.slice va vn vc] ++ xs.drop k) := by
 by_cases hne : cap = k
 ·obtain rfl : n = k := by omega
  obtain rfl : n = cap := by omega
  rw [List.take_of_length_le (by omega), List.drop_eq_nil_of_le (by omega), List.append_nil]
  exact insV_eq W g off n xs _ _ _ hg hl hx hb
 ·exact insV_lt W g off n cap k xs _ _ _ hk hne hn hg hl hx h1 hb
set_option maxHeartbeats 2000000 in
theorem insB_lt (W : World) (g off n cap k : Nat) (xs : List Value) (ka : Option Addr) (kn kc : Nat) (va : Option Addr) (vn vc : Nat) (hk : k ≤ n) (hne : ¬ cap = k) (hn : n ≤ cap) (hg : g < W.heap.size) (HL : Hid (xs.length = n * 2)) (HX : Hid (∀ j v, xs[j]? = some v → W.cell? ((⟨g, off, none⟩ : Addr).add j) = some v)) (H1 : Hid (∀ v ∈ xs, v.oneCell' = true)) (hb : n ≤ 1099511627776) :
  Calls Try.prog 35 #[.slice (some ⟨g, off, none⟩) n cap, .int .i64 (k : Int), .agg #[.slice ka kn kc, .slice va vn vc]] W fun e W' => ∃ y, e = .returned y ∧ Below W.heap.size W W' ∧ W'.ownsRow W.heap.size 75 2 y (n + 1) (xs.take (k * 2) ++ [.slice ka kn kc, .slice va vn vc] ++ xs.drop (k * 2)) := by
 obtain ⟨iS, hi1, hi2, hi3, hi4⟩ := info_of (P := Try.prog) (e := 75) (z := .agg #[.slice none 0 0, .slice none 0 0]) (s := 2) (b := 48) (by kernel_rfl)
 have hc0 : (W.alloc (.cells #[.slice ka kn kc, .slice va vn vc] 75)).cell? ⟨W.heap.size, 0, none⟩ = some (.slice ka kn kc) := cells_new W [.slice ka kn kc, .slice va vn vc] 75 0 _ rfl
 have hc1 : (W.alloc (.cells #[.slice ka kn kc, .slice va vn vc] 75)).cell? ⟨W.heap.size, 1, none⟩ = some (.slice va vn vc) := cells_new W [.slice ka kn kc, .slice va vn vc] 75 1 _ rfl
 have hk0 : (0 : Int) ≤ (k : Int) := by omega
 have hk1 : (k : Int) ≤ (cap : Int) := by omega
 go_enter Try.func35, Try.ntmps35
 go_wp2_with (fail)
 go_region_held3 (fun w' => w'.cell? ⟨W.heap.size, 0, none⟩ = some (.slice ka kn kc) ∧ w'.cell? ⟨W.heap.size, 1, none⟩ = some (.slice va vn vc)) (go_keep) (((refine step_append_grows rfl (.tmp 11) (.tmp 13) 65 rfl 75 iS (.agg #[.slice none 0 0, .slice none 0 0]) 2 48 Try.underlying65 hi1 hi2 hi3 hi4 rfl (by decide) (some ⟨g, off, none⟩) k k (xs.take (k * 2)) rfl (fun h => by cases h) (by have := HL.out; rw [List.length_take]; omega) (fun b hb j v h => by cases hb; exact cells_below ((((Below.refl _ W).alloc (Nat.le_refl _) _).alloc (by simp) _).drew) hg HX.out j v (take_get? h)) ⟨W.heap.size + 1, 0, none⟩ 1 1 [.slice ka kn kc, .slice va vn vc] rfl rfl (fun j u h => by have q := cells_new (W.alloc (.cells #[.slice ka kn kc, .slice va vn vc] 75)) [.slice ka kn kc, .slice va vn vc] 75 j u h; rw [show (W.alloc (.cells #[.slice ka kn kc, .slice va vn vc] 75)).heap.size = W.heap.size + 1 from by simp] at q; exact q) (fun v hv => by simp at hv; rcases hv with rfl | rfl <;> rfl) (by omega) (by unfold maxLen; omega) (by omega) ?_); intro v1 W1 ho1 hg1; have q0 := cell_grown (o := 0) hg1 (b := W.heap.size) (by simp; omega) (v := .slice ka kn kc) (by simp); have q1 := cell_grown (o := 1) hg1 (b := W.heap.size) (by simp; omega) (v := .slice va vn vc) (by simp); have HO1 := Lib.hid ho1; have HG1 := Lib.hid hg1; clear ho1 hg1))
 go_wp2_with (at_builtin; (refine wpList_append_own_at _ rfl _ _ 65 rfl W.heap.size 75 iS (.agg #[.slice none 0 0, .slice none 0 0]) 2 48 Try.underlying65 hi1 hi2 hi3 hi4 rfl (by decide) v1 (k + 1) (xs.take (k * 2) ++ [.slice ka kn kc, .slice va vn vc]) rfl (ownsRow_mono HO1.out (by simp; omega)) ⟨g, off + k * 2, none⟩ (n - k) (cap - k) (xs.drop (k * 2)) rfl (by have := HL.out; rw [List.length_drop]; omega) (drop_cells (cells_below (blw_none ((((Below.refl _ W).alloc (Nat.le_refl _) _).alloc (by simp) _).drew) HG1.out) hg HX.out)) (fun v hv => H1.out v (List.mem_of_mem_drop hv)) (by unfold maxLen; omega) (by omega) (by have := HG1.out.size; simp at this; omega) ?_); intro v2 W2 ho2 hg2 hn2 ha2; have HO2 := Lib.hid ho2; have HG2 := Lib.hid hg2; clear ho2 hg2 hn2 ha2)
 go_ret
 refine ⟨v2, rfl, blw_own (blw_none ((((Below.refl _ W).alloc (Nat.le_refl _) _).alloc (by simp) _).drew) HG1.out) (ownsRow_mono HO1.out (by simp; omega)) HG2.out, ?_⟩
 have := HO2.out
 rw [show k + 1 + (n - k) = n + 1 from by omega] at this
 exact this
set_option maxHeartbeats 2000000 in
theorem insB_eq (W : World) (g off n : Nat) (xs : List Value) (ka : Option Addr) (kn kc : Nat) (va : Option Addr) (vn vc : Nat) (hg : g < W.heap.size) (HL : Hid (xs.length = n * 2)) (HX : Hid (∀ j v, xs[j]? = some v → W.cell? ((⟨g, off, none⟩ : Addr).add j) = some v)) (hb : n ≤ 1099511627776) :
  Calls Try.prog 35 #[.slice (some ⟨g, off, none⟩) n n, .int .i64 (n : Int), .agg #[.slice ka kn kc, .slice va vn vc]] W fun e W' => ∃ y, e = .returned y ∧ Below W.heap.size W W' ∧ W'.ownsRow W.heap.size 75 2 y (n + 1) (xs ++ [.slice ka kn kc, .slice va vn vc]) := by
 obtain ⟨iS, hi1, hi2, hi3, hi4⟩ := info_of (P := Try.prog) (e := 75) (z := .agg #[.slice none 0 0, .slice none 0 0]) (s := 2) (b := 48) (by kernel_rfl)
 have hc0 : (W.alloc (.cells #[.slice ka kn kc, .slice va vn vc] 75)).cell? ⟨W.heap.size, 0, none⟩ = some (.slice ka kn kc) := cells_new W [.slice ka kn kc, .slice va vn vc] 75 0 _ rfl
 have hc1 : (W.alloc (.cells #[.slice ka kn kc, .slice va vn vc] 75)).cell? ⟨W.heap.size, 1, none⟩ = some (.slice va vn vc) := cells_new W [.slice ka kn kc, .slice va vn vc] 75 1 _ rfl
 have hk0 : (0 : Int) ≤ (n : Int) := by omega
 go_enter Try.func35, Try.ntmps35
 go_wp2_with (fail)
 go_region_held3 (fun w' => w'.cell? ⟨W.heap.size, 0, none⟩ = some (.slice ka kn kc) ∧ w'.cell? ⟨W.heap.size, 1, none⟩ = some (.slice va vn vc)) (go_keep) (((refine step_append_grows rfl (.tmp 11) (.tmp 13) 65 rfl 75 iS (.agg #[.slice none 0 0, .slice none 0 0]) 2 48 Try.underlying65 hi1 hi2 hi3 hi4 rfl (by decide) (some ⟨g, off, none⟩) n n xs rfl (fun h => by cases h) HL.out (fun b hb j v h => by cases hb; exact cells_below ((((Below.refl _ W).alloc (Nat.le_refl _) _).alloc (by simp) _).drew) hg HX.out j v h) ⟨W.heap.size + 1, 0, none⟩ 1 1 [.slice ka kn kc, .slice va vn vc] rfl rfl (fun j u h => by have q := cells_new (W.alloc (.cells #[.slice ka kn kc, .slice va vn vc] 75)) [.slice ka kn kc, .slice va vn vc] 75 j u h; rw [show (W.alloc (.cells #[.slice ka kn kc, .slice va vn vc] 75)).heap.size = W.heap.size + 1 from by simp] at q; exact q) (fun v hv => by simp at hv; rcases hv with rfl | rfl <;> rfl) (by omega) (by unfold maxLen; omega) (by omega) ?_); intro v1 W1 ho1 hg1; have q0 := cell_grown (o := 0) hg1 (b := W.heap.size) (by simp; omega) (v := .slice ka kn kc) (by simp); have q1 := cell_grown (o := 1) hg1 (b := W.heap.size) (by simp; omega) (v := .slice va vn vc) (by simp); have HO1 := Lib.hid ho1; have HG1 := Lib.hid hg1; clear ho1 hg1))
 go_wp2_with (at_builtin; (refine wpList_append_own_at _ rfl _ _ 65 rfl W.heap.size 75 iS (.agg #[.slice none 0 0, .slice none 0 0]) 2 48 Try.underlying65 hi1 hi2 hi3 hi4 rfl (by decide) v1 (n + 1) (xs ++ [.slice ka kn kc, .slice va vn vc]) rfl (ownsRow_mono HO1.out (by simp; omega)) ⟨g, off, none⟩ 0 0 [] rfl rfl (fun j v h => by cases h) (fun v hv => by cases hv) (by unfold maxLen; omega) (by omega) (by have := HG1.out.size; simp at this; omega) ?_); intro v2 W2 ho2 hg2 hn2 ha2; have HO2 := Lib.hid ho2; have HG2 := Lib.hid hg2; clear ho2 hg2 hn2 ha2)
 go_ret
 refine ⟨v2, rfl, blw_own (blw_none ((((Below.refl _ W).alloc (Nat.le_refl _) _).alloc (by simp) _).drew) HG1.out) (ownsRow_mono HO1.out (by simp; omega)) HG2.out, ?_⟩
 have := HO2.out
 rwa [List.append_nil] at this
theorem insB_calls (W : World) (g off n cap k : Nat) (xs : List Value) (ka : Option Addr) (kn kc : Nat) (va : Option Addr) (vn vc : Nat) (hk : k ≤ n) (hn : n ≤ cap) (hg : g < W.heap.size) (hl : xs.length = n * 2) (hx : ∀ j v, xs[j]? = some v → W.cell? ((⟨g, off, none⟩ : Addr).add j) = some v) (h1 : ∀ v ∈ xs, v.oneCell' = true) (hb : n ≤ 1099511627776) :
  Calls Try.prog 35 #[.slice (some ⟨g, off, none⟩) n cap, .int .i64 (k : Int), .agg #[.slice ka kn kc, .slice va vn vc]] W fun e W' => ∃ y, e = .returned y ∧ Below W.heap.size W W' ∧ W'.ownsRow W.heap.size 75 2 y (n + 1) (xs.take (k * 2) ++ [.slice ka kn kc, .slice va vn vc] ++ xs.drop (k * 2)) := by
 by_cases hne : cap = k
 ·obtain rfl : n = k := by omega
  obtain rfl : n = cap := by omega
  rw [List.take_of_length_le (by omega), List.drop_eq_nil_of_le (by omega), List.append_nil]
  exact insB_eq W g off n xs _ _ _ _ _ _ hg hl hx hb
 ·exact insB_lt W g off n cap k xs _ _ _ _ _ _ hk hne hn hg hl hx h1 hb
end Go.Proofs.Ytnfmceffbnaanaa
namespace Go.Proofs.Ytnfmceffbnaanaa
open Go.RowKit Go.BigFrame
structure Chg (S : Nat → Prop) (W W' : World) : Prop where
 os : W'.os = W.os
 tape : W'.tape = W.tape
 output : W'.output = W.output
 size : W.heap.size ≤ W'.heap.size
 keep : ∀ k, k < W.heap.size → ¬ S k → W'.heap[k]? = W.heap[k]?
theorem Chg.refl (S : Nat → Prop) (W : World) : Chg S W W := ⟨rfl, rfl, rfl, Nat.le_refl _, fun _ _ _ => rfl⟩
theorem Chg.below {S : Nat → Prop} {W A A' : World} (h : Chg S W A) (hb : Below A.heap.size A A') : Chg S W A' :=
 ⟨hb.os.trans h.os, hb.tape.trans h.tape, hb.output.trans h.output, Nat.le_trans h.size hb.size, fun k hk hs => (hb.block k (Nat.lt_of_lt_of_le hk h.size)).trans (h.keep k hk hs)⟩
theorem Chg.set {S : Nat → Prop} {W A : World} (h : Chg S W A) {p : Addr} (hp : S p.block ∨ W.heap.size ≤ p.block) (v : Value) : Chg S W (A.setCell p v) :=
 ⟨h.os, h.tape, h.output, by rw [set_size]; exact h.size, fun k hk hs => (Below.heap_setCell A p v k (by rintro rfl; rcases hp with h1 | h1; exact hs h1; omega)).trans (h.keep k hk hs)⟩
theorem Chg.alloc {S : Nat → Prop} {W A : World} (h : Chg S W A) (o : Obj) : Chg S W (A.alloc o) := h.below ((Below.refl _ A).alloc (Nat.le_refl _) o)
theorem Chg.drew {S : Nat → Prop} {W A : World} (h : Chg S W A) : Chg S W A.drew := ⟨h.os, h.tape, h.output, h.size, h.keep⟩
theorem Chg.mono {S S' : Nat → Prop} {W A : World} (h : Chg S W A) (hs : ∀ k, S k → S' k) : Chg S' W A := ⟨h.os, h.tape, h.output, h.size, fun k hk hn => h.keep k hk fun h1 => hn (hs k h1)⟩
theorem cell_next {W W1 : World} {b o : Nat} {v : Value} (hb : Below W.heap.size W W1) (h : W.cell? ⟨b, o, none⟩ = some v) : W1.cell? ⟨b, o, none⟩ = some v := by
 have hlt : b < W.heap.size := by
  unfold World.cell? at h
  cases hh : W.heap[b]? with
  | none => simp [hh] at h
  | some x => exact blk_lt hh
 exact (hb.cell (p := ⟨b, o, none⟩) hlt).trans h
theorem set_hit (W : World) (B L lo i j m lc vc V vo n : Nat) (nn : Int) (key : ByteArray) (va : Option Addr) (vn vcp : Nat) (y0 : Value)
  (hAT : Calls Try.prog 30 #[.pointer (some ⟨B, 0, none⟩), .string key] W fun e W1 => e = .returned (.tuple #[.int .i64 (i : Int), .int .i64 (j : Int), .bool true]) ∧ Below W.heap.size W W1)
  (hB : W.heap[B]? = some (.cells #[.slice (some ⟨L, lo, none⟩) n lc, .int .i64 nn] 67 (0, 0))) (hi : i < n)
  (hV : W.cell? ⟨L, lo + i * 2 + 1, none⟩ = some (.slice (some ⟨V, vo, none⟩) m vc)) (hj : j < m) (hy : W.cell? ⟨V, vo + j, none⟩ = some y0) (hf : W.frozen? ⟨V, vo + j, none⟩ = false) (hlt : V < W.heap.size) :
  Calls Try.prog 27 #[.pointer (some ⟨B, 0, none⟩), .string key, .slice va vn vcp] W fun e W' => e = .returned (.tuple #[]) ∧ ∃ W1, Below W.heap.size W W1 ∧ W' = W1.setCell ⟨V, vo + j, none⟩ (.slice va vn vcp) := by
 have hi0 : (0 : Int) ≤ (i : Int) := by omega
 have hi1 : (i : Int) < (n : Int) := by omega
 have hj0 : (0 : Int) ≤ (j : Int) := by omega
 have hj1 : (j : Int) < (m : Int) := by omega
 go_enter Try.func27, Try.ntmps27
 go_wp2_with (go_at_call 30; refine hAT.mono ?_; rintro e W1 ⟨rfl, hb1⟩; have e1 := blk_next hB hb1; obtain ⟨c0, c1⟩ := cb2 e1; have c2 := cell_next hb1 hV; have c3 := cell_next hb1 hy; have c4 := ((bcell hb1).2 V (vo + j) hlt).trans hf; clear hB hV hy hf)
 exact bodyPost_ret (v := .tuple #[]) (by simp [results, Try.results27, go_sem]) rfl ⟨rfl, W1, hb1, rfl⟩
theorem set_first (W : World) (B lc : Nat) (la : Option Addr) (nn : Int) (key : ByteArray) (va : Option Addr) (vn vcp : Nat)
  (hAT : Calls Try.prog 30 #[.pointer (some ⟨B, 0, none⟩), .string key] W fun e W1 => e = .returned (.tuple #[.int .i64 0, .int .i64 0, .bool false]) ∧ Below W.heap.size W W1)
  (hB : W.heap[B]? = some (.cells #[.slice la 0 lc, .int .i64 nn] 67 (0, 0))) (hn0 : 0 ≤ nn) (hn1 : nn ≤ 1099511627776) :
  Calls Try.prog 27 #[.pointer (some ⟨B, 0, none⟩), .string key, .slice va vn vcp] W fun e W' => e = .returned (.tuple #[]) ∧ Chg (fun k => k = B) W W' ∧ ∃ g, W.heap.size ≤ g ∧ W'.heap[g]? = some (.cells #[.string key] 9 (0, 0)) ∧ W'.heap[g + 1]? = some (.cells #[.slice va vn vcp] 27 (0, 0)) ∧
   W'.heap[g + 2]? = some (.cells #[.slice (some ⟨g, 0, none⟩) 1 1, .slice (some ⟨g + 1, 0, none⟩) 1 1] 75 (0, 0)) ∧ W'.heap[B]? = some (.cells #[.slice (some ⟨g + 2, 0, none⟩) 1 1, .int .i64 (nn + 1)] 67 (0, 0)) := by
 go_enter Try.func27, Try.ntmps27
 go_wp2_with (go_at_call 30; refine hAT.mono ?_; rintro e W1 ⟨rfl, hb1⟩; have e1 := blk_next hB hb1; obtain ⟨c0, c1⟩ := cb2 e1; obtain ⟨f0, f1⟩ := fb2 e1; have e2 : ((((W1.setCell ⟨B, 1, none⟩ (.int .i64 (nn + 1))).alloc (.cells #[.string key] 9)).alloc (.cells #[.slice va vn vcp] 27)).alloc (.cells #[.slice (some ⟨W1.heap.size, 0, none⟩) 1 1, .slice (some ⟨W1.heap.size + 1, 0, none⟩) 1 1] 75)).heap[B]? = some (.cells #[.slice la 0 lc, .int .i64 (nn + 1)] 67 (0, 0)) := alloc_old _ (alloc_old _ (alloc_old _ (set_same (i := 1) e1 (.int .i64 (nn + 1))))); obtain ⟨c2, c3⟩ := cb2 e2; obtain ⟨f2, f3⟩ := fb2 e2; have E2 := Lib.hid e2; have E1 := Lib.hid e1; clear hB e1 e2)
 have hlt := blk_lt E1.out
 have z1 : (W1.setCell ⟨B, 1, none⟩ (.int .i64 (nn + 1))).heap.size = W1.heap.size := set_size _ _ _
 have z2 := alloc_sz (.cells #[.string key] 9) z1
 have z3 := alloc_sz (.cells #[.slice va vn vcp] 27) z2
 have p1 := alloc_new (.cells #[.string key] 9) z1
 have p2 := alloc_new (.cells #[.slice va vn vcp] 27) z2
 have p3 := alloc_new (.cells #[.slice (some ⟨W1.heap.size, 0, none⟩) 1 1, .slice (some ⟨W1.heap.size + 1, 0, none⟩) 1 1] 75) z3
 refine bodyPost_ret (v := .tuple #[]) (by simp [results, Try.results27, go_sem]) rfl ⟨rfl, ?_, W1.heap.size, hb1.size, set_far (alloc_old _ (alloc_old _ p1)) (by simp; omega) _, set_far (alloc_old _ p2) (by simp; omega) _, set_far p3 (by simp; omega) _, set_same (i := 0) E2.out _⟩
 exact (((((Chg.below (Chg.refl (fun k => k = B) W) hb1).set (.inl rfl) _).alloc _).alloc _).alloc _).set (.inl rfl) _
end Go.Proofs.Ytnfmceffbnaanaa
namespace Go.Proofs.Ytnfmceffbnaanaa
open Go.RowKit
def plainO : Op → Bool
 | .move _ => true
 | .assign _ => true
 | .build _ _ => true
 | .load _ _ => true
 | .binOp _ _ _ _ _ => true
 | .unOp _ _ _ => true
 | .slice _ _ _ _ _ => true
 | .fieldAddr _ _ _ => true
 | .indexAddr _ _ _ => true
 | .extract _ _ => true
 | .nilCheck _ => true
 | _ => false
def noEnter : Next → Bool
 | .enter _ _ => false
 | _ => true
theorem val_noEnter {P : Program} {m : Sem Value} {w w' : World} {n : Next} (h : ((do pure (Next.value (← m))) : Sem Next).run P w = .ok n w') : noEnter n = true := by
 rw [Sem.run_bind] at h
 cases hm : m.run P w with
 | halt x y => rw [hm] at h; cases h
 | ok v y => rw [hm] at h; cases h; rfl
theorem plain_noEnter {P : Program} {ev : Operand → Value} {o : Oper} (hp : plainO o.op = true) {w w' : World} {n : Next} (h : (execOp ev o).run P w = .ok n w') : noEnter n = true := by
 obtain ⟨dst, op, type, pos, after, guard⟩ := o
 simp only at hp
 unfold plainO at hp
 split at hp <;> first | (cases hp; done) | skip
 all_goals first
  | exact val_noEnter h
  | (cases h; rfl)
  | skip
 rename_i x
 simp only [execOp] at h
 split at h <;> first
  | (cases h; rfl)
  | (simp [runtimePanic] at h; done)
  | skip
 split at h <;> first
  | (cases h; rfl)
  | (simp [runtimePanic] at h; done)
  | skip
 rw [Sem.run_bind] at h
 simp only [run_program, Result.andThen_ok] at h
 rw [Sem.run_bind] at h
 generalize Sem.run P _ w = r at h
 cases r with
 | halt y z => cases h
 | ok y z =>
  simp only [Result.andThen_ok] at h
  split at h
  ·simp at h
  ·cases h; rfl
def nthO : List Oper → Nat → Option Oper
 | [], _ => none
 | o :: _, 0 => some o
 | _ :: r, n + 1 => nthO r n
theorem nthO_get : ∀ (l : List Oper) (i : Nat), nthO l i = l[i]?
 | [], _ => rfl
 | _ :: _, 0 => rfl
 | _ :: r, n + 1 => nthO_get r n
def wpX (P : Program) (ops : List Oper) (Q : Exit → Act → World → Prop) : List (Nat × Nat) → Act → World → Prop
 | [], a, W => ∀ x, Q .normal a (ext W x)
 | (k, i) :: r, a, W => ∃ o, nthO ops i = some o ∧ Region.wanted o (yielded ops.toArray a.tmps) = true ∧ match k with
  | 0 => plainO o.op = true ∧ o.quiet P a (fun w' => ∃ x, w' = ext W x) (fun a' => wpX P ops Q r a' W)
  | 1 => ∀ x, UponV P (fun v w' => Below (ext W x).heap.size (ext W x) w' ∧ wpX P ops Q r (a.put o.dst v) w') ((execOp a.eval o).run P (ext W x))
  | _ => ∀ x, UponV P (fun v w' => wpX P ops Q r (a.put o.dst v) w') ((execOp a.eval o).run P (ext W x))
section
variable {P : Program} {ops : List Oper} {Q : Exit → Act → World → Prop} {a : Act} {W : World} {r : List (Nat × Nat)} {i : Nat} {o : Oper}
theorem wx_nil (h : ∀ x, Q .normal a (ext W x)) : wpX P ops Q [] a W := h
theorem wx_q (hi : nthO ops i = some o) (hw : Region.wanted o (yielded ops.toArray a.tmps) = true) (hp : plainO o.op = true) (h : ∀ K : Act → Prop, (∀ a, wpX P ops Q r a W → K a) → o.quiet P a (fun w' => ∃ x, w' = ext W x) K) : wpX P ops Q ((0, i) :: r) a W :=
 ⟨o, hi, hw, hp, h _ fun _ h => h⟩
theorem wx_m (hi : nthO ops i = some o) (hw : Region.wanted o (yielded ops.toArray a.tmps) = true) (h : ∀ x, UponV P (fun v w' => Below (ext W x).heap.size (ext W x) w' ∧ wpX P ops Q r (a.put o.dst v) w') ((execOp a.eval o).run P (ext W x))) : wpX P ops Q ((1, i) :: r) a W :=
 ⟨o, hi, hw, h⟩
theorem wx_s (hi : nthO ops i = some o) (hw : Region.wanted o (yielded ops.toArray a.tmps) = true) (h : ∀ x, UponV P (fun v w' => wpX P ops Q r (a.put o.dst v) w') ((execOp a.eval o).run P (ext W x))) : wpX P ops Q ((2, i) :: r) a W :=
 ⟨o, hi, hw, h⟩
theorem wx_call {f : FuncId} {args : List Operand} {ts : Array TypeId} (hi : nthO ops i = some o) (hw : Region.wanted o (yielded ops.toArray a.tmps) = true) (ho : o.op = .call { callee := .value (.func f), args := args.toArray, argTypes := ts }) (hg : goesB P f = true) {vs : List Value} (ha : args.map a.eval = vs)
  (h : ∀ x, Calls P f vs.toArray (ext W x) fun e w' => ∃ v, e = .returned v ∧ Below (ext W x).heap.size (ext W x) w' ∧ wpX P ops Q r (a.put o.dst v) w') : wpX P ops Q ((1, i) :: r) a W := by
 refine wx_m hi hw fun x => ?_
 have he : (execOp a.eval o).run P (ext W x) = .ok (.enter f vs.toArray) (ext W x) := by
  obtain ⟨dst, op, type, pos, after, guard⟩ := o
  simp only at ho
  subst ho
  have := run_goes hg vs.toArray (ext W x)
  simp only [execOp, resolve, Sem.run_bind, List.map_toArray, ha, Act.eval, Deferred.ofValue, Sem.run_pure, Result.andThen_ok, invoke, Array.append_empty, Array.empty_append]
  exact this
 rw [he]
 exact h x
theorem wx_append {s y : Operand} {ts : Array TypeId} (hi : nthO ops i = some o) (hw : Region.wanted o (yielded ops.toArray a.tmps) = true) (ho : o.op = .call { callee := .builtin .append, args := #[s, y], argTypes := ts }) {v1 v2 : Value} (h1 : a.eval s = v1) (h2 : a.eval y = v2)
  (h : ∀ x, ∃ v w', (Builtin.append_ ts o.type #[v1, v2]).run P (ext W x) = .ok v w' ∧ Below (ext W x).heap.size (ext W x) w' ∧ wpX P ops Q r (a.put o.dst v) w') : wpX P ops Q ((1, i) :: r) a W := by
 refine wx_m hi hw fun x => ?_
 obtain ⟨v, w', h3, h4, h5⟩ := h x
 have he : (execOp a.eval o).run P (ext W x) = .ok (.value v) w' := by
  obtain ⟨dst, op, type, pos, after, guard⟩ := o
  simp only at ho
  subst ho
  simp only [execOp, resolve, invoke, builtin, Sem.run_bind, Sem.run_pure, Result.andThen_ok, List.map_toArray, List.map_cons, List.map_nil, h1, h2, h3]
 rw [he]
 exact ⟨h4, h5⟩
theorem wx_alloc {T : TypeId} {zs : Array Value} (hi : nthO ops i = some o) (hw : Region.wanted o (yielded ops.toArray a.tmps) = true) (hA : ∀ (ρ : Operand → Value) (w' : World), (execOp ρ o).run P w' = .ok (.value (ptrTo w'.heap.size)) (w'.alloc (.cells zs T (0, 0))))
  (h : ∀ x, wpX P ops Q r (a.put o.dst (ptrTo (ext W x).heap.size)) ((ext W x).alloc (.cells zs T (0, 0)))) : wpX P ops Q ((1, i) :: r) a W := by
 refine wx_m hi hw fun x => ?_
 rw [hA]
 exact ⟨(Below.refl _ _).alloc (Nat.le_refl _) _, h x⟩
theorem wx_store {t : TypeId} {d y : Operand} (hi : nthO ops i = some o) (hw : Region.wanted o (yielded ops.toArray a.tmps) = true) (ho : o.op = .store t d y) {v1 v2 : Value} (h1 : a.eval d = v1) (h2 : a.eval y = v2)
  (h : ∀ x, ∃ w', (Instr.storeAt t v1 v2).run P (ext W x) = .ok () w' ∧ wpX P ops Q r (a.put o.dst undef) w') : wpX P ops Q ((2, i) :: r) a W := by
 refine wx_s hi hw fun x => ?_
 obtain ⟨w', h3, h4⟩ := h x
 have he : (execOp a.eval o).run P (ext W x) = .ok .skip w' := by
  obtain ⟨dst, op, type, pos, after, guard⟩ := o
  simp only at ho
  subst ho
  simp only [execOp, Sem.run_bind, Sem.run_pure, Result.andThen_ok, h1, h2, h3]
 rw [he]
 exact h4
end
theorem run_storeB {P : Program} {w : World} {b off : Nat} {ty t : TypeId} {cs : Array Value} {v : Value} (hb : w.heap[b]? = some (.cells cs t (0, 0))) (ho : off + v.cells.size ≤ cs.size)
  (hi : (P.info? ty).map (·.size) = some v.cells.size) (h1 : v.cells.all (·.oneCell') = true) :
  (Instr.storeAt ty (.pointer (some ⟨b, off, none⟩)) v).run P w = .ok () (w.setCells b off v.cells.toList) := by
 have := run_storeCells_cells (P := P) b off v.cells.toList 0 w (fun j hj => by
   have hj1 : j < v.cells.size := by simpa using hj
   have hj' : off + j < cs.size := by omega
   rw [blk_cell hb, Nat.add_zero, Array.getElem?_eq_getElem hj']
   rfl) (fun j _ => blk_frozen hb _)
  (fun v hv => (Array.all_eq_true_iff_forall_mem.1 h1) v (by simpa using hv))
 cases hq : P.info? ty with
 | none => simp [hq] at hi
 | some i =>
  have hs : v.cells.size = i.size := by simp [hq] at hi; omega
  simp only [Nat.add_zero] at this
  simp only [Instr.storeAt, Instr.sureAddr, Sem.run_bind, Sem.run_pure, Result.andThen_ok]
  simp [storeVar, sizeOf, typeInfo, hq, hs, this]
theorem run_store1 {P : Program} {w : World} {b off : Nat} {ty t : TypeId} {cs : Array Value} {v : Value} (hb : w.heap[b]? = some (.cells cs t (0, 0))) (ho : off < cs.size)
  (hi : (P.info? ty).map (·.size) = some 1) (hv : v.cells = #[v]) (h1 : v.oneCell' = true) : (Instr.storeAt ty (.pointer (some ⟨b, off, none⟩)) v).run P w = .ok () (w.setCell ⟨b, off, none⟩ v) := by
 have := run_storeB (P := P) (ty := ty) (v := v) hb (by rw [hv]; exact ho) (by rw [hv]; exact hi) (by rw [hv]; simp [h1])
 rw [hv] at this
 exact this
theorem run_store2 {P : Program} {w : World} {b off : Nat} {ty t : TypeId} {cs : Array Value} {v u : Value} (hb : w.heap[b]? = some (.cells cs t (0, 0))) (ho : off + 1 < cs.size)
  (hi : (P.info? ty).map (·.size) = some 2) (h1 : v.oneCell' = true) (h2 : u.oneCell' = true) : (Instr.storeAt ty (.pointer (some ⟨b, off, none⟩)) (.agg #[v, u])).run P w = .ok () ((w.setCell ⟨b, off, none⟩ v).setCell ⟨b, off + 1, none⟩ u) :=
 run_storeB (P := P) (ty := ty) (v := .agg #[v, u]) hb ho hi (by simp [Value.cells, h1, h2])
theorem wp_chain {P : Program} {id : Nat} {l : List Oper} {Q : Exit → Act → World → Prop} {a : Act} {W : World} (order : List (Nat × Nat)) (hm : P.follows .mixedOrders = true)
  (hB : canonB l.toArray (order.map (·.2)) (order.map (·.1)) (fun _ => false) (fun j _ => moveB l (order.map (·.2)) j) = true) (h : wpX P l Q order a W) : (Code.region id l.toArray true).wp P Q a W := by
 obtain ⟨ok, hlen, hst⟩ := canonB_ok hB
 have hnn : (order.map (·.2)).length = order.length := List.length_map ..
 have at_ : ∀ k, k < order.length → ∃ kd ix, order[k]? = some (kd, ix) ∧ (order.map (·.2)).getD k 0 = ix ∧ (order.map (·.1)).getD k 0 = kd ∧ order.drop k = (kd, ix) :: order.drop (k + 1) := fun k hk => by
  refine ⟨order[k].1, order[k].2, List.getElem?_eq_getElem hk, ?_, ?_, List.drop_eq_getElem_cons hk⟩
  ·rw [List.getD_eq_getElem?_getD, List.getElem?_map, List.getElem?_eq_getElem hk]; rfl
  ·rw [List.getD_eq_getElem?_getD, List.getElem?_map, List.getElem?_eq_getElem hk]; rfl
 rw [hnn] at ok hst
 refine wp_canon (S := fun k _ A w => ∃ W x, w = ext W x ∧ wpX P l Q (order.drop k) A W) hm ok (fun k X A w hk hM hS o ho => ?_) (fun k X A w v hk hE => by cases hE) (fun j k o o' d _ _ hE => by cases hE) (fun p k X A w _ _ hE => by cases hE) (fun k X A w hk hM _ hS o ho => ?_) (fun k X A w w' hS hb => ?_) ⟨W, ⟨#[], W.drawn⟩, by simp [ext], h⟩ (fun X A w' hS => ?_)
 ·obtain ⟨kd, ix, e1, e2, e3, e4⟩ := at_ k hk
  obtain ⟨W1, x1, rfl, hX⟩ := hS
  have hM' : Nat.blt 0 ((order.map (·.1)).getD k 0) = false := hM
  rw [e3] at hM'
  obtain rfl : kd = 0 := by
   cases kd with
   | zero => rfl
   | succ n => have h9 : Nat.blt 0 (n + 1) = true := Nat.ble_eq_true_of_le (Nat.succ_le_succ (Nat.zero_le n)); rw [h9] at hM'; cases hM'
  rw [e4] at hX
  obtain ⟨o', h1, h2, h3, v, h4, h5⟩ := hX
  have ho' : nthO l ix = some o := by rw [nthO_get, ← e2]; simpa using ho
  obtain rfl : o' = o := Option.some.inj (h1.symm.trans ho')
  refine ⟨v, ⟨W1, x1, rfl, h5⟩, .inl ⟨h2, fun w' hw' => ?_⟩⟩
  obtain ⟨y, rfl⟩ := ext_of_below hw'
  have h6 := h4 (ext (ext W1 x1) y) ⟨_, ext_ext _ _ _⟩
  unfold Oper.quietAt at h6
  cases hr : (execOp A.eval o').run P (ext (ext W1 x1) y) with
  | halt u z => rw [hr] at h6; exact h6
  | ok n z =>
   have := plain_noEnter h3 hr
   rw [hr] at h6
   cases n <;> first | exact h6 | (cases this; done)
 ·obtain ⟨kd, ix, e1, e2, e3, e4⟩ := at_ k hk
  obtain ⟨W1, x1, rfl, hX⟩ := hS
  have hM' : Nat.blt 0 ((order.map (·.1)).getD k 0) = true := hM
  rw [e3] at hM'
  rw [e4] at hX
  obtain ⟨o', h1, h2, h3⟩ := hX
  have ho' : nthO l ix = some o := by rw [nthO_get, ← e2]; simpa using ho
  obtain rfl : o' = o := Option.some.inj (h1.symm.trans ho')
  refine .inl ⟨h2, ?_⟩
  match kd, hM', h3, e3 with
  | 1, _, h3, _ => exact uponV_mono (h3 x1) fun v w' ⟨q1, q2⟩ => ⟨.inl q1, w', ⟨#[], w'.drawn⟩, by simp [ext], q2⟩
  | kd + 2, _, h3, e3 =>
   refine uponV_mono (h3 x1) fun v w' q2 => ⟨.inr fun j hj => ?_, w', ⟨#[], w'.drawn⟩, by simp [ext], q2⟩
   rcases hst k hk (by rw [e3]; rfl) j hj with h7 | h7
   ·exact .inl h7
   ·exact .inr fun V _ hp => pend_move (ops := l) h7 hp
 ·obtain ⟨W1, x1, rfl, hX⟩ := hS
  obtain ⟨y, rfl⟩ := ext_of_below hb
  exact ⟨W1, _, ext_ext _ _ _, hX⟩
 ·obtain ⟨W1, x1, rfl, hX⟩ := hS
  rw [List.drop_length] at hX
  exact hX x1
end Go.Proofs.Ytnfmceffbnaanaa
