/- made by a program (rowgen.py): MerkleParts: for every input the law returns true, and each argument reads behind the call as it read before. -/
import Derived.Test.YtkknpeeccejppaaDoorKMsc

set_option maxRecDepth 100000
namespace Go.Proofs.YtkknpeeccejppaaDoor
open Go.RowKit
mutual
def A.pk (ρ : Nat → Option Nat) : A → A
 | .own i off => match ρ i with
  | some j => .own j off
  | none => .dead
 | .ownx i base len k => match ρ i with
  | some j => .ownx j base len k
  | none => .dead
 | .sq i => match ρ i with
  | some j => .sq j
  | none => .dead
 | .vw i size lo n full => match ρ i with
  | some j => .vw j size lo n full
  | none => .dead
 | .el i k size off => match ρ i with
  | some j => .el j k size off
  | none => .dead
 | .mp i => match ρ i with
  | some j => .mp j
  | none => .dead
 | .dq i => match ρ i with
  | some j => .dq j
  | none => .dead
 | .iv i k => match ρ i with
  | some j => .iv j k
  | none => .dead
 | .de i k size off => match ρ i with
  | some j => .de j k size off
  | none => .dead
 | .ie i k m size off => match ρ i with
  | some j => .ie j k m size off
  | none => .dead
 | .fn f first caps => .fn f (pkL ρ first) (pkL ρ caps)
 | .agg xs => .agg (pkL ρ xs)
 | .tup xs => .tup (pkL ρ xs)
 | .ref l => .ref (pkL ρ l)
 | .opt u b x => .opt u b (x.pk ρ)
 | .v x => .v x
 | .sl c l => .sl c l
 | .nl => .nl
 | .it q vs => .it q vs
 | .dead => .dead
 | .av c n l => .av c n l
 | .rv xs => .rv (pkL ρ xs)
 | .vr i base lo m => match ρ i with
  | some j => .vr j base lo m
  | none => .dead
def pkL (ρ : Nat → Option Nat) : List A → List A
 | [] => []
 | x :: r => x.pk ρ :: pkL ρ r
end
theorem pkL_get {ρ : Nat → Option Nat} : ∀ {l : List A} {j : Nat} {x : A}, (pkL ρ l)[j]? = some x → ∃ y, l[j]? = some y ∧ x = y.pk ρ
 | [], j, x, h => by unfold pkL at h; cases j <;> cases h
 | y :: r, 0, x, h => by unfold pkL at h; cases h; exact ⟨y, rfl, rfl⟩
 | y :: r, j + 1, x, h => by unfold pkL at h; exact pkL_get (l := r) h
theorem pkL_length {ρ : Nat → Option Nat} : ∀ l : List A, (pkL ρ l).length = l.length
 | [] => by unfold pkL; rfl
 | y :: r => by unfold pkL; rw [List.length_cons, List.length_cons, pkL_length r]
theorem isAv_pk {ρ : Nat → Option Nat} {x : A} (h : isAv (x.pk ρ) = false) : isAv x = false := by
 cases x <;> first | rfl | (unfold A.pk at h; exact h)
theorem enc_pk (ρ : Nat → Option Nat) (c : TC) (d : U c) : ∀ x ∈ enc c d, x.pk ρ = x := fun x hx => by
 have := enc_plain c d x hx
 cases x <;> first | (unfold A.pk; rfl) | exact this.elim
def Pk (ρ : Nat → Option Nat) (N : Nm) (nx : Nat) (N' : Nm) (nx' : Nat) : Prop := ∀ i j, i < nx → ρ i = some j → j < nx' ∧ N'.b j = N.b i ∧ N'.q j = N.q i
section
variable {F : Nat → Prop} {N N' : Nm} {nx nx' : Nat} {R : World} {ρ : Nat → Option Nat}
theorem Hv.pk (st : Pk ρ N nx N' nx') {x : A} {y : Value} (h : Hv F N nx R x y) : Hv F N' nx' R (x.pk ρ) y := by
 induction h with
 | v x => unfold A.pk; exact .v x
 | @sl c l a cap ad h1 h2 h3 h4 ih =>
  unfold A.pk
  refine .sl ad h1 h2 h3 (fun i d j x y hd hx hy => ?_)
  have := ih i d j x y hd hx hy
  rwa [enc_pk ρ c d x (List.mem_of_getElem? hx)] at this
 | @ref l ad h1 h2 h3 ih =>
  unfold A.pk
  refine .ref ad h1 (fun j x hx => ?_) (fun j x y hx hy => ?_)
  ·obtain ⟨z, hz, rfl⟩ := pkL_get hx; exact h2 j z hz
  ·obtain ⟨z, hz, rfl⟩ := pkL_get hx; exact ih j z y hz hy
 | own h =>
  unfold A.pk
  split
  ·rename_i j hj
   obtain ⟨h1, h2, _⟩ := st _ _ h hj
   rw [← h2]; exact .own h1
  ·exact .dead _
 | ownx h =>
  unfold A.pk
  split
  ·rename_i j hj
   obtain ⟨h1, h2, _⟩ := st _ _ h hj
   rw [← h2]; exact .ownx h1
  ·exact .dead _
 | sq h =>
  unfold A.pk
  split
  ·rename_i j hj
   obtain ⟨h1, _, h2⟩ := st _ _ h hj
   rw [← h2]; exact .sq h1
  ·exact .dead _
 | vw h h1 h2 h3 =>
  unfold A.pk
  split
  ·rename_i j hj
   obtain ⟨k1, _, k2⟩ := st _ _ h hj
   exact .vw k1 h1 h2 (fun hn => by rw [k2]; exact h3 hn)
  ·exact .dead _
 | el h =>
  unfold A.pk
  split
  ·rename_i j hj
   obtain ⟨h1, _, h2⟩ := st _ _ h hj
   rw [← h2]; exact .el h1
  ·exact .dead _
 | dq h =>
  unfold A.pk
  split
  ·rename_i j hj
   obtain ⟨h1, _, h2⟩ := st _ _ h hj
   rw [← h2]; exact .dq h1
  ·exact .dead _
 | iv h =>
  unfold A.pk
  split
  ·rename_i j hj
   obtain ⟨h1, _, h2⟩ := st _ _ h hj
   rw [← h2]; exact .iv h1
  ·exact .dead _
 | de h =>
  unfold A.pk
  split
  ·rename_i j hj
   obtain ⟨h1, _, h2⟩ := st _ _ h hj
   rw [← h2]; exact .de h1
  ·exact .dead _
 | ie h =>
  unfold A.pk
  split
  ·rename_i j hj
   obtain ⟨h1, _, h2⟩ := st _ _ h hj
   rw [← h2]; exact .ie h1
  ·exact .dead _
 | mp h =>
  unfold A.pk
  split
  ·rename_i j hj
   obtain ⟨h1, h2, _⟩ := st _ _ h hj
   rw [← h2]; exact .mp h1
  ·exact .dead _
 | nl a => unfold A.pk; exact .nl a
 | it q vs y h => unfold A.pk; exact .it q vs y h
 | fn vs us h1 _ h3 _ ih2 ih4 =>
  unfold A.pk
  exact .fn vs us (by rw [pkL_length]; exact h1) (fun j x v hx hv => by obtain ⟨z, hz, rfl⟩ := pkL_get hx; exact ih2 j z v hz hv) (by rw [pkL_length]; exact h3) (fun j x v hx hv => by obtain ⟨z, hz, rfl⟩ := pkL_get hx; exact ih4 j z v hz hv)
 | agg vs h1 _ ih => unfold A.pk; exact .agg vs (by rw [pkL_length]; exact h1) (fun j x v hx hv => by obtain ⟨z, hz, rfl⟩ := pkL_get hx; exact ih j z v hz hv)
 | tup vs h1 _ ih => unfold A.pk; exact .tup vs (by rw [pkL_length]; exact h1) (fun j x v hx hv => by obtain ⟨z, hz, rfl⟩ := pkL_get hx; exact ih j z v hz hv)
 | dead y => unfold A.pk; exact .dead y
 | av h1 h2 => unfold A.pk; exact .av h1 h2
 | rv vs h1 _ h3 ih =>
  unfold A.pk
  refine .rv vs (by rw [pkL_length]; exact h1) (fun j x v hx hv => by obtain ⟨z, hz, rfl⟩ := pkL_get hx; exact ih j z v hz hv) (fun j x v hx hv hi => ?_)
  obtain ⟨z, hz, rfl⟩ := pkL_get hx
  exact h3 j z v hz hv (isAv_pk hi)
 | vr ad h k1 =>
  unfold A.pk
  split
  ·rename_i j hj
   obtain ⟨h1, h2, _⟩ := st _ _ h hj
   exact .vr ad h1 fun hm => by rw [h2]; exact k1 hm
  ·exact .dead _
theorem HW.pk (st : Pk ρ N nx N' nx') : ∀ {xs : List A} {us : List Value}, HW F N nx R xs us → HW F N' nx' R (pkL ρ xs) us
 | [], _, h => by unfold pkL; exact h
 | x :: r, _, ⟨v, t, h1, h2, h3, h4⟩ => by
  unfold pkL
  exact ⟨v, t, h1, h2.pk st, fun hi => h3 (isAv_pk hi), HW.pk st h4⟩
theorem HL.pk (st : Pk ρ N nx N' nx') : ∀ {xs : List A} {vs : List Value}, HL F N nx R xs vs → HL F N' nx' R (pkL ρ xs) vs
 | [], _, h => by unfold pkL; exact h
 | x :: r, _, ⟨v, vs, h1, h2, h3⟩ => by
  unfold pkL
  exact ⟨v, vs, h1, h2.pk st, HL.pk st h3⟩
end
def Els.pk (ρ : Nat → Option Nat) : Els → Els
 | .lst cs => .lst (cs.map (pkL ρ))
 | .ty c l => .ty c l
def Ob.pk (ρ : Nat → Option Nat) : Ob → Ob
 | .box e cs => .box e (pkL ρ cs)
 | .arr e size els => .arr e size (els.pk ρ)
 | .map k v l => .map k v l
 | .sit s pos => .sit s pos
 | .deep e c l => .deep e c l
 | .rcd e xs => .rcd e (pkL ρ xs)
 | .abs m c l => .abs m c l
theorem pkL_enc (ρ : Nat → Option Nat) (c : TC) (d : U c) : pkL ρ (enc c d) = enc c d := by
 have : ∀ l : List A, (∀ x ∈ l, x.pk ρ = x) → pkL ρ l = l := fun l => by
  induction l with
  | nil => intro _; unfold pkL; rfl
  | cons x r ih => intro h; unfold pkL; rw [h x (List.mem_cons_self ..), ih fun y hy => h y (List.mem_cons_of_mem _ hy)]
 exact this _ (enc_pk ρ c d)
theorem valA_pk (ρ : Nat → Option Nat) (c : TC) (d : U c) : (valA c d).pk ρ = valA c d := by
 unfold valA
 cases c.isAgg with
 | true =>
  show (aggA (enc c d)).pk ρ = aggA (enc c d)
  unfold aggA
  split
  ·unfold A.pk; rfl
  ·unfold A.pk; rw [pkL_enc]
 | false =>
  have hp := enc_pk ρ c d
  simp only [cond_false]
  generalize enc c d = l at hp ⊢
  cases l with
  | nil => unfold A.pk; rfl
  | cons x r => exact hp x (List.mem_cons_self ..)
section
variable {F : Nat → Prop} {N N' : Nm} {nx nx' : Nat} {o o' : Objs} {R : World} {ρ : Nat → Option Nat} {i j : Nat} {ob : Ob}
theorem ObR.pk (st : Pk ρ N nx N' nx') (hi : i < nx) (hj : ρ i = some j) (h : ObR F N nx R i ob) : ObR F N' nx' R j (ob.pk ρ) := by
 obtain ⟨_, sb, sq⟩ := st i j hi hj
 cases ob with
 | box e cs =>
  obtain ⟨vs, h1, h2⟩ := h
  exact ⟨vs, h1.pk st, by rw [sb]; exact h2⟩
 | arr e size els =>
  obtain ⟨zs, h1, h2⟩ := h
  cases els with
  | lst cs =>
   have hn : (Els.pk ρ (.lst cs)).n = cs.length := by simp [Els.pk, Els.n]
   refine ⟨zs, by rw [sq, hn]; exact h1, fun k hk => ?_⟩
   rw [hn] at hk
   have := (h2 k hk).pk st
   show HL F N' nx' R (nthL (cs.map (pkL ρ)) k) _
   rw [nthL_get, List.getD_eq_getElem?_getD, List.getElem?_map]
   have h3 : (Els.lst cs).nth k = cs.getD k [] := nthL_get cs k
   rw [h3, List.getD_eq_getElem?_getD] at this
   have hk' : cs[k]? = some cs[k] := List.getElem?_eq_getElem hk
   rw [hk'] at this ⊢
   exact this
  | ty c l =>
   refine ⟨zs, by rw [sq]; exact h1, fun k hk => ?_⟩
   have := (h2 k hk).pk st
   have e : pkL ρ ((Els.ty c l).nth k) = (Els.ty c l).nth k := pkL_enc ρ c _
   rw [e] at this
   exact this
 | map k v l =>
  obtain ⟨es, cl, h1, h2, h3⟩ := h
  refine ⟨es, cl, by rw [sb]; exact h1, h2, fun j p e hp he => ⟨(h3 j p e hp he).1, ?_⟩⟩
  have := (h3 j p e hp he).2.pk st
  rwa [valA_pk] at this
 | sit s pos =>
  show R.heap[N'.b j]? = _
  rw [sb]
  exact h
 | deep e c l =>
  obtain ⟨col, c', zs, h1, h2, h3, h4, h5⟩ := h
  have hj' := (st i j hi hj).1
  refine ⟨col, c', zs, h1, by rw [sq]; exact h2, fun k d hd => ?_, fun k d hd => ?_, by rw [sq]; exact h5⟩
  ·have go : ∀ (cs : List A) (vs : List Value), (∀ x ∈ cs, x.pk ρ = x) → HL F N nx R (encI i k cs) vs → HL F N' nx' R (encI j k cs) vs := fun cs => by
    induction cs with
    | nil => intro vs _ hh; rw [hh.inv0]; exact HL.nil
    | cons x r ih =>
     intro vs hc hh
     have hx := hc x (List.mem_cons_self ..)
     have hr := fun y hy => hc y (List.mem_cons_of_mem _ hy)
     cases x
     case sl c2 l2 =>
      obtain ⟨w, ws, rfl, w1, w2⟩ := hh.inv
      rw [w1.iv_inv.2, ← sq]
      exact HL.cons (.iv hj') (ih ws hr w2)
     all_goals
      obtain ⟨w, ws, rfl, w1, w2⟩ := hh.inv
      have w3 := w1.pk st
      rw [hx] at w3
      exact HL.cons w3 (ih ws hr w2)
   exact go _ _ (enc_pk ρ c d) (h3 k d hd)
  ·obtain ⟨l', e', us, k1, k2, k3⟩ := h4 k d hd
   refine ⟨l', e', us, k1, by rw [sq]; exact k2, fun m hm => ?_⟩
   have := (k3 m hm).pk st
   rwa [pkL_enc] at this
 | rcd e xs =>
  obtain ⟨us, h1, h2⟩ := h
  exact ⟨us, h1.pk st, by rw [sb]; exact h2⟩
 | abs m c l =>
  obtain ⟨hh, h1, h2⟩ := h
  exact ⟨hh, by rw [sq]; exact h1, by rw [sq]; exact h2⟩
theorem foot_pk (st : Pk ρ N nx N' nx') (hi : i < nx) (hj : ρ i = some j) {g : Nat} : foot N' j (ob.pk ρ) g ↔ foot N i ob g := by
 obtain ⟨_, sb, sq⟩ := st i j hi hj
 cases ob <;> simp only [foot, Ob.pk, sb, sq]
theorem HRel.pk (h : HRel F N nx o R) (st : Pk ρ N nx N' nx') (ho : ∀ j ob', lookO j o' = some ob' → ∃ i ob, ρ i = some j ∧ lookO i o = some ob ∧ ob' = ob.pk ρ) : HRel F N' nx' o' R ∧ ∀ g, Foot N' o' g → Foot N o g := by
 refine ⟨⟨h.flt, fun j ob' hj => ?_, fun j ob' g hj hg => ?_, fun j k x y g hj hk hx hy => ?_, h.gl⟩, fun g ⟨j, ob', hj, hg⟩ => ?_⟩
 ·obtain ⟨i, ob, h1, h2, rfl⟩ := ho j ob' hj
  obtain ⟨h3, h4⟩ := h.ob i ob h2
  exact ⟨(st i j h3 h1).1, h4.pk st h3 h1⟩
 ·obtain ⟨i, ob, h1, h2, rfl⟩ := ho j ob' hj
  exact h.ff i ob g h2 ((foot_pk st (h.ob i ob h2).1 h1).1 hg)
 ·obtain ⟨i, ob, h1, h2, rfl⟩ := ho j x hj
  obtain ⟨i', ob', k1, k2, rfl⟩ := ho k y hk
  have := h.sep i i' ob ob' g h2 k2 ((foot_pk st (h.ob i ob h2).1 h1).1 hx) ((foot_pk st (h.ob i' ob' k2).1 k1).1 hy)
  subst this
  rw [h1] at k1
  exact Option.some.inj k1
 ·obtain ⟨i, ob, h1, h2, rfl⟩ := ho j ob' hj
  exact ⟨i, ob, h2, (foot_pk st (h.ob i ob h2).1 h1).1 hg⟩
end
abbrev Ren2 := List (Nat × Nat)
def fwd : Ren2 → Nat → Option Nat
 | [], _ => none
 | (k, j) :: r, i => bif Nat.beq k i then some j else fwd r i
def bck : Ren2 → Nat → Option Nat
 | [], _ => none
 | (k, j) :: r, i => bif Nat.beq j i then some k else bck r i
def rho2 (nb : Nat) (L : Ren2) (i : Nat) : Option Nat := bif Nat.blt i nb then some i else fwd L i
def inv2 (nb : Nat) (L : Ren2) (j : Nat) : Nat := bif Nat.blt j nb then j else match bck L j with
 | some k => k
 | none => 0
def okRen (nb nx' : Nat) : Ren2 → Bool
 | [] => true
 | (k, j) :: r => Nat.ble nb k && (Nat.ble nb j && (Nat.blt j nx' && (isNone (fwd r k) && (isNone (bck r j) && okRen nb nx' r))))
theorem isNone_iff {o : Option Nat} : isNone o = true ↔ o = none := by cases o <;> simp [isNone]
theorem fwd_bck {nb nx' : Nat} : ∀ {L : Ren2} {i j : Nat}, okRen nb nx' L = true → fwd L i = some j → bck L j = some i ∧ nb ≤ i ∧ nb ≤ j ∧ j < nx'
 | [], i, j, _, h => by cases h
 | (k, m) :: r, i, j, h0, h => by
  unfold okRen at h0
  simp only [Bool.and_eq_true] at h0
  obtain ⟨a1, a2, a3, a4, a5, a6⟩ := h0
  unfold fwd at h
  cases hb : Nat.beq k i with
  | true =>
   rw [hb] at h
   cases h
   obtain rfl := Nat.eq_of_beq_eq_true hb
   refine ⟨?_, Nat.le_of_ble_eq_true a1, Nat.le_of_ble_eq_true a2, Nat.le_of_ble_eq_true a3⟩
   unfold bck
   rw [beq_self]
   rfl
  | false =>
   rw [hb] at h
   obtain ⟨h1, h2⟩ := fwd_bck a6 h
   refine ⟨?_, h2⟩
   unfold bck
   cases hm : Nat.beq m j with
   | true =>
    obtain rfl := Nat.eq_of_beq_eq_true hm
    rw [isNone_iff.1 a5] at h1
    cases h1
   | false => exact h1
def nm2 (N : Nm) (nb : Nat) (L : Ren2) : Nm := ⟨fun j => N.b (inv2 nb L j), fun j => N.q (inv2 nb L j)⟩
theorem inv_rho {nb nx' : Nat} {L : Ren2} (h0 : okRen nb nx' L = true) {i j : Nat} (h : rho2 nb L i = some j) : inv2 nb L j = i ∧ (i < nb ∧ j = i ∨ nb ≤ i ∧ nb ≤ j ∧ j < nx') := by
 unfold rho2 at h
 cases hb : Nat.blt i nb with
 | true =>
  rw [hb] at h
  cases h
  refine ⟨?_, .inl ⟨Nat.le_of_ble_eq_true hb, rfl⟩⟩
  unfold inv2
  rw [hb]
  rfl
 | false =>
  rw [hb] at h
  obtain ⟨h1, h2, h3, h4⟩ := fwd_bck h0 h
  refine ⟨?_, .inr ⟨h2, h3, h4⟩⟩
  unfold inv2
  have : Nat.blt j nb = false := by
   cases hj : Nat.blt j nb with
   | false => rfl
   | true => exact absurd (Nat.le_of_ble_eq_true hj) (by omega)
  rw [this, h1]
  rfl
theorem pk2 {N : Nm} {nb n nx' : Nat} {L : Ren2} (h0 : okRen nb nx' L = true) (hnb : nb ≤ nx') : Pk (rho2 nb L) N n (nm2 N nb L) nx' := fun i j _ hj => by
 obtain ⟨h1, h2⟩ := inv_rho h0 hj
 refine ⟨?_, by show N.b (inv2 nb L j) = _; rw [h1], by show N.q (inv2 nb L j) = _; rw [h1]⟩
 rcases h2 with ⟨h2, rfl⟩ | ⟨_, _, h2⟩
 ·omega
 ·exact h2
def pkNew (nb : Nat) (L : Ren2) (o : Objs) : Ren2 → Objs
 | [] => []
 | (k, j) :: r => (j, match lookO k o with
  | some ob => some (ob.pk (rho2 nb L))
  | none => none) :: pkNew nb L o r
def pkOld (nb : Nat) (L : Ren2) (o : Objs) : List Nat → Objs
 | [] => []
 | k :: r => bif Nat.blt k nb then (k, match lookO k o with
  | some ob => some (ob.pk (rho2 nb L))
  | none => none) :: pkOld nb L o r else pkOld nb L o r
theorem lookO_pkNew {nb : Nat} {L : Ren2} {o : Objs} {j : Nat} {ob' : Ob} : ∀ {r : Ren2}, lookO j (pkNew nb L o r) = some ob' → ∃ k ob, (k, j) ∈ r ∧ lookO k o = some ob ∧ ob' = ob.pk (rho2 nb L)
 | [], h => by cases h
 | (k, m) :: r, h => by
  unfold pkNew at h
  have h' : (bif Nat.beq m j then (match lookO k o with | some ob => some (ob.pk (rho2 nb L)) | none => none) else lookO j (pkNew nb L o r)) = some ob' := h
  cases hb : Nat.beq m j with
  | true =>
   rw [hb] at h'
   obtain rfl := Nat.eq_of_beq_eq_true hb
   simp only [cond_true] at h'
   split at h' <;> first | (cases h'; done) | skip
   rename_i ob hob
   cases h'
   exact ⟨k, ob, List.mem_cons_self .., hob, rfl⟩
  | false =>
   rw [hb] at h'
   obtain ⟨k', ob, h1, h2⟩ := lookO_pkNew h'
   exact ⟨k', ob, List.mem_cons_of_mem _ h1, h2⟩
theorem lookO_pkOld {nb : Nat} {L : Ren2} {o : Objs} {j : Nat} {ob' : Ob} : ∀ {r : List Nat}, lookO j (pkOld nb L o r) = some ob' → j < nb ∧ ∃ ob, lookO j o = some ob ∧ ob' = ob.pk (rho2 nb L)
 | [], h => by cases h
 | k :: r, h => by
  unfold pkOld at h
  cases hk : Nat.blt k nb with
  | false => rw [hk] at h; exact lookO_pkOld h
  | true =>
   rw [hk] at h
   have h' : (bif Nat.beq k j then (match lookO k o with | some ob => some (ob.pk (rho2 nb L)) | none => none) else lookO j (pkOld nb L o r)) = some ob' := h
   cases hb : Nat.beq k j with
   | true =>
    rw [hb] at h'
    obtain rfl := Nat.eq_of_beq_eq_true hb
    simp only [cond_true] at h'
    split at h' <;> first | (cases h'; done) | skip
    rename_i ob hob
    cases h'
    exact ⟨Nat.le_of_ble_eq_true hk, ob, hob, rfl⟩
   | false => rw [hb] at h'; exact lookO_pkOld h'
theorem keysO_pkOld {nb : Nat} {L : Ren2} {o : Objs} {j : Nat} (hj : j < nb) : ∀ {r : List Nat}, j ∈ r → j ∈ keysO (pkOld nb L o r)
 | [], h => by cases h
 | k :: r, h => by
  unfold pkOld
  rcases List.mem_cons.1 h with rfl | h
  ·rw [show Nat.blt j nb = true from Nat.ble_eq_true_of_le hj]
   exact List.mem_cons_self ..
  ·cases Nat.blt k nb with
   | true => exact List.mem_cons_of_mem _ (keysO_pkOld hj h)
   | false => exact keysO_pkOld hj h
theorem lookO_split {i : Nat} {ob : Ob} {A B : Objs} (h : lookO i (A ++ B) = some ob) : (i ∈ keysO A ∧ lookO i A = some ob) ∨ (i ∉ keysO A ∧ lookO i B = some ob) := by
 by_cases hk : i ∈ keysO A
 ·rw [lookO_in hk] at h; exact .inl ⟨hk, h⟩
 ·rw [lookO_none hk] at h; exact .inr ⟨hk, h⟩
theorem ren_mem {nb nx' : Nat} : ∀ {L : Ren2} {k j : Nat}, okRen nb nx' L = true → (k, j) ∈ L → rho2 nb L k = some j
 | [], k, j, _, h => by cases h
 | (a, b) :: r, k, j, h0, h => by
  have h00 := h0
  unfold okRen at h0
  simp only [Bool.and_eq_true] at h0
  obtain ⟨a1, a2, a3, a4, a5, a6⟩ := h0
  have hge : ∀ {L : Ren2} {k j : Nat}, okRen nb nx' L = true → (k, j) ∈ L → nb ≤ k := fun {L} => by
   induction L with
   | nil => intro k j _ h; cases h
   | cons p r ih =>
    intro k j h0 h
    obtain ⟨x, y⟩ := p
    unfold okRen at h0
    simp only [Bool.and_eq_true] at h0
    rcases List.mem_cons.1 h with e | h
    ·cases e; exact Nat.le_of_ble_eq_true h0.1
    ·exact ih h0.2.2.2.2.2 h
  have hk : Nat.blt k nb = false := by
   cases hb : Nat.blt k nb with
   | false => rfl
   | true => exact absurd (hge h00 h) (by have := Nat.le_of_ble_eq_true hb; omega)
  have ih : ∀ {L : Ren2} {k j : Nat}, okRen nb nx' L = true → (k, j) ∈ L → fwd L k = some j := fun {L} => by
   induction L with
   | nil => intro k j _ h; cases h
   | cons p r ih =>
    intro k j h0 h
    obtain ⟨x, y⟩ := p
    unfold okRen at h0
    simp only [Bool.and_eq_true] at h0
    obtain ⟨_, _, _, b4, _, b6⟩ := h0
    unfold fwd
    rcases List.mem_cons.1 h with e | h
    ·cases e; rw [beq_self]; rfl
    ·have h1 := ih b6 h
     cases hb : Nat.beq x k with
     | true =>
      obtain rfl := Nat.eq_of_beq_eq_true hb
      rw [isNone_iff.1 b4] at h1
      cases h1
     | false => exact h1
  unfold rho2
  rw [hk]
  exact ih h00 h
section
variable {F : Nat → Prop} {N : Nm} {nx : Nat} {o : Objs} {R : World} {ρ : Nat → Option Nat}
theorem pkL_id {xs : List A} (h : ∀ (j : Nat) (x : A), xs[j]? = some x → x.pk ρ = x) : pkL ρ xs = xs := by
 induction xs with
 | nil => unfold pkL; rfl
 | cons x r ih => unfold pkL; rw [h 0 x rfl, ih fun j y hy => h (j + 1) y hy]
theorem Hv.pk_id (hρ : ∀ k, k < nx → ρ k = some k) {x : A} {y : Value} (h : Hv F N nx R x y) : x.pk ρ = x := by
 induction h with
 | v x => unfold A.pk; rfl
 | sl => unfold A.pk; rfl
 | @ref l ad h1 h2 h3 ih =>
  unfold A.pk
  rw [pkL_id fun j x hx => by obtain ⟨y, hy⟩ := h2 j x hx; exact ih j x y hx hy]
 | own h => unfold A.pk; rw [hρ _ h]
 | ownx h => unfold A.pk; rw [hρ _ h]
 | sq h => unfold A.pk; rw [hρ _ h]
 | vw h => unfold A.pk; rw [hρ _ h]
 | el h => unfold A.pk; rw [hρ _ h]
 | dq h => unfold A.pk; rw [hρ _ h]
 | iv h => unfold A.pk; rw [hρ _ h]
 | de h => unfold A.pk; rw [hρ _ h]
 | ie h => unfold A.pk; rw [hρ _ h]
 | mp h => unfold A.pk; rw [hρ _ h]
 | nl a => unfold A.pk; rfl
 | it q vs y h => unfold A.pk; rfl
 | @fn f first caps vs us h1 _ h3 _ ih2 ih4 =>
  unfold A.pk
  have e1 : pkL ρ first = first := pkL_id fun j x hx => by
   have hj : j < vs.length := by rw [h1]; exact (List.getElem?_eq_some_iff.1 hx).1
   exact ih2 j x _ hx (List.getElem?_eq_getElem hj)
  have e2 : pkL ρ caps = caps := pkL_id fun j x hx => by
   have hj : j < us.length := by rw [h3]; exact (List.getElem?_eq_some_iff.1 hx).1
   exact ih4 j x _ hx (List.getElem?_eq_getElem hj)
  rw [e1, e2]
 | @agg xs vs h1 _ ih =>
  unfold A.pk
  rw [pkL_id fun j x hx => by
   have hj : j < vs.length := by rw [h1]; exact (List.getElem?_eq_some_iff.1 hx).1
   exact ih j x _ hx (List.getElem?_eq_getElem hj)]
 | @tup xs vs h1 _ ih =>
  unfold A.pk
  rw [pkL_id fun j x hx => by
   have hj : j < vs.length := by rw [h1]; exact (List.getElem?_eq_some_iff.1 hx).1
   exact ih j x _ hx (List.getElem?_eq_getElem hj)]
 | dead y => unfold A.pk; rfl
 | av h1 h2 => unfold A.pk; rfl
 | @rv xs vs h1 _ _ ih =>
  unfold A.pk
  rw [pkL_id fun j x hx => by
   have hj : j < vs.length := by rw [h1]; exact (List.getElem?_eq_some_iff.1 hx).1
   exact ih j x _ hx (List.getElem?_eq_getElem hj)]
 | vr ad h _ => unfold A.pk; rw [hρ _ h]
theorem HW.pk_id (hρ : ∀ k, k < nx → ρ k = some k) : ∀ {xs : List A} {us : List Value}, HW F N nx R xs us → pkL ρ xs = xs
 | [], _, _ => by unfold pkL; rfl
 | x :: r, _, ⟨v, t, _, h2, _, h3⟩ => by unfold pkL; rw [h2.pk_id hρ, HW.pk_id hρ h3]
theorem HL.pk_id (hρ : ∀ k, k < nx → ρ k = some k) : ∀ {xs : List A} {vs : List Value}, HL F N nx R xs vs → pkL ρ xs = xs
 | [], _, _ => by unfold pkL; rfl
 | x :: r, _, ⟨v, vs, _, h2, h3⟩ => by unfold pkL; rw [h2.pk_id hρ, HL.pk_id hρ h3]
theorem HRel.pk_id (h : HRel F N nx o R) (hρ : ∀ k, k < nx → ρ k = some k) {i : Nat} {ob : Ob} (hi : lookO i o = some ob) : ob.pk ρ = ob := by
 obtain ⟨_, h2⟩ := h.ob i ob hi
 cases ob with
 | box e cs =>
  obtain ⟨vs, h1, _⟩ := h2
  show Ob.box e (pkL ρ cs) = _
  rw [h1.pk_id hρ]
 | deep e c l => rfl
 | arr e size els =>
  cases els with
  | ty c l => rfl
  | lst cs =>
   obtain ⟨zs, _, h3⟩ := h2
   show Ob.arr e size (.lst (cs.map (pkL ρ))) = _
   congr 2
   apply List.ext_getElem?
   intro k
   rw [List.getElem?_map]
   cases hk : cs[k]? with
   | none => rfl
   | some c =>
    have hk' : k < cs.length := (List.getElem?_eq_some_iff.1 hk).1
    have := (h3 k hk').pk_id hρ
    have e : (Els.lst cs).nth k = c := by
     show nthL cs k = c
     rw [nthL_get, List.getD_eq_getElem?_getD, hk]
     rfl
    rw [e] at this
    exact congrArg some this
 | map k v l => rfl
 | sit s pos => rfl
 | rcd e xs =>
  obtain ⟨us, h1, _⟩ := h2
  show Ob.rcd e (pkL ρ xs) = _
  rw [h1.pk_id hρ]
 | abs m c l => rfl
end
def pkObjs (nb : Nat) (L : Ren2) (o ob : Objs) : Objs := pkNew nb L o L ++ (pkOld nb L o (newK o ob.length) ++ ob)
theorem pkObjs_ok {F : Nat → Prop} {N : Nm} {nb n nx' : Nat} {o ob d : Objs} {R : World} {L : Ren2} (h : HRel F N n o R) (h0 : okRen nb nx' L = true) (hnb : nb ≤ nx') (hd : o = d ++ ob) {F0 : Nat → Prop} {N0 : Nm} {R0 : World} (hb : HRel F0 N0 nb ob R0) :
  HRel F (nm2 N nb L) nx' (pkObjs nb L o ob) R ∧ ∀ g, Foot (nm2 N nb L) (pkObjs nb L o ob) g → Foot N o g := by
 have small : ∀ k, k < nb → rho2 nb L k = some k := fun k hk => by unfold rho2; rw [show Nat.blt k nb = true from Nat.ble_eq_true_of_le hk]; rfl
 refine h.pk (pk2 h0 hnb) fun j ob' hj => ?_
 unfold pkObjs at hj
 rcases lookO_split hj with ⟨_, h1⟩ | ⟨_, h1⟩
 ·obtain ⟨k, x, h2, h3, h4⟩ := lookO_pkNew h1
  exact ⟨k, x, ren_mem h0 h2, h3, h4⟩
 ·rcases lookO_split h1 with ⟨_, h2⟩ | ⟨h2, h3⟩
  ·obtain ⟨h3, x, h4, h5⟩ := lookO_pkOld h2
   exact ⟨j, x, small j h3, h4, h5⟩
  ·have h4 := (hb.ob j ob' h3).1
   refine ⟨j, ob', small j h4, ?_, (hb.pk_id small h3).symm⟩
   subst hd
   rw [lookO_newK fun hm => h2 (keysO_pkOld h4 hm)]
   exact h3
end Go.Proofs.YtkknpeeccejppaaDoor
namespace Go.Proofs.YtkknpeeccejppaaDoor
open Go.RowKit
def resV (E : Env) (s : St) : ResultVar → R2
 | .tmp t => match s.ev [] (.tmp t) with
  | some x => some (x, [])
  | none => none
 | .cell a t => loadE E s [] t (.tmp a)
def resL (E : Env) (s : St) : List ResultVar → Option (List A × List Prop)
 | [] => some ([], [])
 | r :: rs => match resV E s r with
  | some (v, ps) => match resL E s rs with
   | some (vs, qs) => some (v :: vs, ps ++ qs)
   | none => none
  | none => none
def tupA : List A → A
 | [x] => x
 | l => match rawL l with
  | some vs => .v (.tuple vs.toArray)
  | none => .tup l
def tupV : List Value → Value
 | [v] => v
 | l => .tuple l.toArray
def resM (tmps : Array Value) : ResultVar → Sem Value
 | .tmp t => pure (tmps.getD t undef)
 | .cell a t => do loadVar t (← asAddr (tmps.getD a undef))
theorem results_eq (fn : Func) (tmps : Array Value) : results fn tmps = (do let vs ← fn.results.mapM (resM tmps); pure (if h : vs.size = 1 then vs[0] else .tuple vs)) := rfl
section
variable {E : Env} {Z : Base} {F : Nat → Prop} {N : Nm} {s : St} {a : Act} {R : World}
theorem tupA_ok {nx : Nat} {l : List A} {vs : List Value} (h : HL F N nx R l vs) : Hv F N nx R (tupA l) (tupV vs) := by
 match l, h with
 | [], h =>
  rw [h.inv0]
  exact .v _
 | [x], h =>
  obtain ⟨v, us, rfl, h2, h3⟩ := h.inv
  rw [h3.inv0]
  exact h2
 | x :: y :: r, h =>
  obtain ⟨v, us, rfl, h2, h3⟩ := h.inv
  obtain ⟨w, ws, rfl, h4, h5⟩ := h3.inv
  show Hv F N nx R (match rawL (x :: y :: r) with | some vs => .v (.tuple vs.toArray) | none => .tup (x :: y :: r)) (.tuple (v :: w :: ws).toArray)
  split
  ·rename_i us hu
   rw [rawL_ok hu h]
   exact .v _
  ·exact Hv.of_tup h
theorem resV_ok (h : Rel Z F N s a R) {r : ResultVar} {x : A} {ps : List Prop} (he : resV E s r = some (x, ps)) (hp : ∀ p ∈ ps, p) : ∃ v, Hv F N s.nx R x v ∧ (resM a.tmps r).run E.P R = .ok v R := by
 cases r with
 | tmp t =>
  unfold resV at he
  simp only at he
  split at he <;> first | (cases he; done) | skip
  rename_i z hz
  cases he
  exact ⟨_, (ev_ok h (gok_nil _) hz).2, rfl⟩
 | cell c t =>
  obtain ⟨v, h1, h2⟩ := load_ok h (gok_nil _) he hp
  refine ⟨v, h1, ?_⟩
  have h3 : (Instr.loadAt t (a.tmps.getD c undef)).run E.P R = .ok v R := h2 R (Below.refl _ _)
  show (do loadVar t (← asAddr (a.tmps.getD c undef)) : Sem Value).run E.P R = _
  unfold Instr.loadAt at h3
  generalize a.tmps.getD c undef = p at *
  cases p <;> first | (simp [Instr.sureAddr] at h3; done) | skip
  rename_i ad
  cases ad with
  | none => simp [Instr.sureAddr] at h3
  | some ad => simpa [Instr.sureAddr, asAddr] using h3
theorem resL_ok (h : Rel Z F N s a R) : ∀ {l : List ResultVar} {xs : List A} {ps : List Prop}, resL E s l = some (xs, ps) → (∀ p ∈ ps, p) → ∃ vs, HL F N s.nx R xs vs ∧ (l.mapM (resM a.tmps)).run E.P R = .ok vs R
 | [], xs, ps, he, _ => by cases he; exact ⟨[], HL.nil, rfl⟩
 | r :: rs, xs, ps, he, hp => by
  unfold resL at he
  split at he <;> first | (cases he; done) | skip
  rename_i x ps1 h1
  split at he <;> first | (cases he; done) | skip
  rename_i xs1 qs h2
  cases he
  obtain ⟨v, g1, g2⟩ := resV_ok h h1 fun p hm => hp p (List.mem_append.2 (.inl hm))
  obtain ⟨vs, g3, g4⟩ := resL_ok h h2 fun p hm => hp p (List.mem_append.2 (.inr hm))
  refine ⟨v :: vs, HL.cons g1 g3, ?_⟩
  rw [List.mapM_cons]
  simp only [Sem.run_bind, g2, Result.andThen_ok, g4, Sem.run_pure]
theorem results_ok (h : Rel Z F N s a R) {fn : Func} {xs : List A} {ps : List Prop} (he : resL E s fn.results.toList = some (xs, ps)) (hp : ∀ p ∈ ps, p) : ∃ v, Hv F N s.nx R (tupA xs) v ∧ (results fn a.tmps).run E.P R = .ok v R := by
 obtain ⟨vs, h1, h2⟩ := resL_ok h he hp
 refine ⟨tupV vs, tupA_ok h1, ?_⟩
 rw [results_eq, Array.mapM_eq_mapM_toList]
 simp only [Sem.run_bind, Sem.run_map, h2, Result.andThen_ok, Sem.run_pure]
 congr 1
 match vs with
 | [] => simp [tupV]
 | [x] => simp [tupV]
 | x :: y :: r => simp [tupV]
end
def refsA (nb : Nat) (o : Objs) : Nat → A → List Nat
 | 0, _ => []
 | d + 1, x => match x with
  | .sq i | .vw i _ _ _ _ | .el i _ _ _ | .own i _ | .ownx i _ _ _ | .mp i | .dq i | .iv i _ | .de i _ _ _ | .ie i _ _ _ _ | .vr i _ _ _ => bif Nat.blt i nb then [] else i :: (match lookO i o with
   | some (.box _ cs) => cs.flatMap (refsA nb o d)
   | some (.rcd _ cs) => cs.flatMap (refsA nb o d)
   | some (.arr _ _ (.lst cs)) => cs.flatMap fun l => l.flatMap (refsA nb o d)
   | _ => [])
  | .agg xs => xs.flatMap (refsA nb o d)
  | .rv xs => xs.flatMap (refsA nb o d)
  | .tup xs => xs.flatMap (refsA nb o d)
  | .fn _ xs ys => xs.flatMap (refsA nb o d) ++ ys.flatMap (refsA nb o d)
  | _ => []
def refsO (nb : Nat) (o : Objs) : List Nat → List Nat
 | [] => []
 | k :: r => (bif Nat.blt k nb then (match lookO k o with
  | some (.box _ cs) => cs.flatMap (refsA nb o 4)
  | some (.rcd _ cs) => cs.flatMap (refsA nb o 4)
  | some (.arr _ _ (.lst cs)) => cs.flatMap fun l => l.flatMap (refsA nb o 4)
  | _ => []) else []) ++ refsO nb o r
def mkRen : List Nat → Nat → Ren2 → Ren2
 | [], _, L => L
 | k :: r, j, L => match fwd L k with
  | some _ => mkRen r j L
  | none => mkRen r (j + 1) (L ++ [(k, j)])
def onlyRet : Outs → Bool
 | [] => true
 | (none, _, _) :: r => onlyRet r
 | _ => false
theorem onlyRet_ok : ∀ {o : Outs} {i : Nat}, onlyRet o = true → getO (some i) o = none
 | [], _, _ => rfl
 | (none, _, _) :: r, i, h => onlyRet_ok (o := r) h
 | (some _, _, _) :: _, _, h => by cases h
def endS (W : List Nat) (s0 : St) (r : Res) : Option St := bif onlyRet r.outs then (match getO none r.outs, r.nrm with
 | some (_, s), none => some s
 | none, some s => some s
 | some (c, s), some s' => some (mergeS (cval c) W s0 s s')
 | none, none => none) else none
def fin2 (k : Nat) (s0 s : St) (x : A) (ps : List Prop) (L : Ren2) : Option CRes :=
 bif okRen s0.nx (s0.nx + L.length) L then some (k, x.pk (rho2 s0.nx L), s0.nx + L.length, pkObjs s0.nx L s.o s0.o, ps) else none
def finR (E : Env) (fn : Func) (k : Nat) (W : List Nat) (s0 : St) (r : Res) : Option CRes := match endS W s0 r with
 | some s => match resL E s fn.results.toList with
  | some (l, ps) => fin2 k s0 s (tupA l) (r.ps ++ ps) (mkRen (refsA s0.nx s.o 6 (tupA l) ++ refsO s0.nx s.o (newK s.o s0.o.length)) s0.nx [])
  | none => none
 | none => none
def slotsOf : Nat → List A → Slots
 | _, [] => []
 | k, x :: r => (k, x) :: slotsOf (k + 1) r
def initS (n : Nat) (args : List A) (nx : Nat) (o : Objs) : St := ⟨n, nx, slotsOf 0 args, o⟩
def isNil0 : Objs → Bool
 | [] => true
 | _ => false
def evF (E : Env) (u : Nat) (f : FuncId) (args : List A) (nx : Nat) (o : Objs) : Option CRes := match E.P.funcs[f]? with
 | some fn => match fn.body with
  | some c => bif Nat.ble args.length fn.ntmps then finR E fn (bif isNil0 o then 1 else 2) (wrC c) (initS fn.ntmps args nx o) (evC E u c (initS fn.ntmps args nx o)) else none
  | none => none
 | none => none
theorem look_slots {u : Nat} {x : A} : ∀ {l : List A} {k : Nat}, look u (slotsOf k l) = some x → ∃ i, u = k + i ∧ l[i]? = some x
 | [], _, h => by cases h
 | y :: r, k, h => by
  have h' : (bif Nat.beq k u then some y else look u (slotsOf (k + 1) r)) = some x := h
  cases hb : Nat.beq k u with
  | true =>
   rw [hb] at h'
   exact ⟨0, (Nat.eq_of_beq_eq_true hb).symm, h'⟩
  | false =>
   rw [hb] at h'
   obtain ⟨i, h1, h2⟩ := look_slots h'
   exact ⟨i + 1, by omega, h2⟩
theorem init_rel {n nx : Nat} {args : List A} {o : Objs} {vs : List Value} {F : Nat → Prop} {N : Nm} {R : World} (hl : args.length ≤ n) (hh : HRel F N nx o R) (ha : HL F N nx R args vs) :
  Rel ⟨F, N, nx, o, R, tmOf { tmps := vs.toArray ++ Array.replicate (n - vs.toArray.size) undef, defers := [] }, fun _ => True⟩ F N (initS n args nx o) { tmps := vs.toArray ++ Array.replicate (n - vs.toArray.size) undef, defers := [] } R := by
 have hlen := ha.length
 refine ⟨rfl, ?_, fun u x hu => ?_, hh, .refl, fun _ _ => rfl⟩
 ·show (vs.toArray ++ Array.replicate (n - vs.toArray.size) undef).size = n
  simp
  omega
 ·obtain ⟨i, h1, h2⟩ := look_slots hu
  obtain rfl : u = i := by omega
  obtain ⟨v, h3, h4⟩ := ha.get h2
  have hu' : u < vs.length := (List.getElem?_eq_some_iff.1 h3).1
  have : tmOf { tmps := vs.toArray ++ Array.replicate (n - vs.toArray.size) undef, defers := [] } u = v := by
   unfold tmOf
   simp only [Array.getD_eq_getD_getElem?]
   rw [Array.getElem?_append_left (by simpa using hu'), List.getElem?_toArray, h3]
   rfl
  rw [this]
  exact (HS_plain h4.isPlain).2 h4
section
variable {E : Env}
theorem endS_ok {Z : Base} {F : Nat → Prop} {N : Nm} {a0 : Act} {R0 : World} {W : List Nat} {s0 : St} (h0 : Rel Z F N s0 a0 R0) {r : Res} (hw : Wf s0 r) {s : St} (he : endS W s0 r = some s) {e : Exit} {x : St} {a : Act} {R : World} (ho : Oc r e x) (hx : At (midB F N s0 a0 R0 W) a R x) :
  (e = .ret ∨ e = .normal) ∧ At (midB F N s0 a0 R0 W) a R s ∧ Sub s0 s := by
 unfold endS at he
 cases hr : onlyRet r.outs with
 | false => rw [hr] at he; cases he
 | true =>
  rw [hr] at he
  simp only [cond_true] at he
  split at he <;> first | (cases he; done) | skip
  ·rename_i c s' hg hn
   cases he
   rcases ho with ⟨t, c', rfl, h1, h2, h3⟩ | ⟨rfl, h1, h2⟩
   ·cases t with
    | none => rw [hg] at h1; cases h1; exact ⟨.inl rfl, hx, hw.outs _ _ _ hg⟩
    | some i => rw [onlyRet_ok hr] at h1; cases h1
   ·rw [hn] at h1; cases h1
  ·rename_i hg hn
   cases he
   rcases ho with ⟨t, c', rfl, h1, h2, h3⟩ | ⟨rfl, h1, h2⟩
   ·cases t with
    | none => rw [hg] at h1; cases h1
    | some i => rw [onlyRet_ok hr] at h1; cases h1
   ·rw [hn] at h1; cases h1; exact ⟨.inr rfl, hx, hw.nrm _ hn⟩
  ·rename_i c s1 s2 hg hn
   cases he
   rcases ho with ⟨t, c', rfl, h1, h2, h3⟩ | ⟨rfl, h1, h2⟩
   ·cases t with
    | none =>
     rw [hg] at h1; cases h1
     exact ⟨.inl rfl, lift_m (g := cval c) h0 (hw.outs _ _ _ hg) (hw.nrm _ hn) (by rw [h2]; rfl) _ _ hx, Sub.merge _ _ _ _ _⟩
    | some i => rw [onlyRet_ok hr] at h1; cases h1
   ·rw [hn] at h1
    cases h1
    exact ⟨.inr rfl, lift_m (g := cval c) h0 (hw.outs _ _ _ hg) (hw.nrm _ hn) (by rw [h2 _ _ _ hg]; rfl) _ _ hx, Sub.merge _ _ _ _ _⟩
theorem evF_ok (ok : CodeOk E) {u : Nat} {f : FuncId} {args : List A} {nx : Nat} {o : Objs} {k nx' : Nat} {x : A} {o' : Objs} {ps : List Prop} (he : evF E u f args nx o = some (k, x, nx', o', ps)) (hp : ∀ p ∈ ps, p) :
  CallOk E.P f args nx o k x nx' o' := by
 unfold evF at he
 split at he <;> first | (cases he; done) | skip
 rename_i fn hf
 split at he <;> first | (cases he; done) | skip
 rename_i c hc
 cases hl : Nat.ble args.length fn.ntmps with
 | false => rw [hl] at he; cases he
 | true =>
  rw [hl] at he
  simp only [cond_true] at he
  have hle := Nat.le_of_ble_eq_true hl
  generalize hk0 : (bif isNil0 o then 1 else 2) = k0 at he
  generalize hr : evC E u c (initS fn.ntmps args nx o) = r at he
  unfold finR at he
  split at he <;> first | (cases he; done) | skip
  rename_i s hs
  split at he <;> first | (cases he; done) | skip
  rename_i l qs hres
  generalize mkRen (refsA (initS fn.ntmps args nx o).nx s.o 6 (tupA l) ++ refsO (initS fn.ntmps args nx o).nx s.o (newK s.o (initS fn.ntmps args nx o).o.length)) (initS fn.ntmps args nx o).nx [] = L at he
  unfold fin2 at he
  cases hok : okRen (initS fn.ntmps args nx o).nx ((initS fn.ntmps args nx o).nx + L.length) L with
  | false => rw [hok] at he; cases he
  | true =>
   rw [hok] at he
   cases he
   intro F N R vs hh ha
   ·have h0 := init_rel hle hh ha
    have hlen := ha.length
    refine calls_of_wp hf hc ?_
    have hwf := wf_code ok (u := u) 0 c false (initS fn.ntmps args nx o)
    have hr' : evH E u 0 c false (initS fn.ntmps args nx o) = r := hr
    rw [hr'] at hwf
    have key := code_ok ok (u := u) 0 c false (midB F N (initS fn.ntmps args nx o) { tmps := vs.toArray ++ Array.replicate (fn.ntmps - vs.toArray.size) undef, defers := [] } R (wrC c)) (initS fn.ntmps args nx o) { tmps := vs.toArray ++ Array.replicate (fn.ntmps - vs.toArray.size) undef, defers := [] } R
     (bodyPost E.P fn fun e R' => ∃ y F' N', e = .returned y ∧ HRel F' N' (nx + L.length) (pkObjs nx L s.o o) R' ∧ Step F N nx o R F' N' (nx + L.length) (pkObjs nx L s.o o) R' ∧ Hv F' N' (nx + L.length) R' ((tupA l).pk (rho2 nx L)) y ∧ (k ≤ 1 → Below R.heap.size R R')) ⟨F, N, h0.start _⟩ (fun u hu => hu) (by rw [hr']; exact fun p hm => hp p (List.mem_append.2 (.inl hm)))
    refine key fun e z a' R' ho hz => ?_
    rw [hr'] at ho
    obtain ⟨h1, ⟨F', N', h2⟩, h3⟩ := endS_ok h0 hwf hs ho hz
    obtain ⟨y, g1, g2⟩ := results_ok h2 hres fun p hm => hp p (List.mem_append.2 (.inr hm))
    obtain ⟨d, hd⟩ := h3.seq
    have hd' : s.o = d ++ o := hd
    obtain ⟨q1, q2⟩ := pkObjs_ok (nb := nx) (nx' := nx + L.length) (L := L) h2.hp hok (Nat.le_add_right _ _) hd' hh
    have hst : Step F N nx o R F' N' s.nx s.o R' := h2.st
    have small : ∀ k, k < nx → inv2 nx L k = k := fun k hk => by unfold inv2; rw [show Nat.blt k nx = true from Nat.ble_eq_true_of_le hk]; rfl
    have hst2 : Step F N nx o R F' (nm2 N' nx L) (nx + L.length) (pkObjs nx L s.o o) R' := ⟨Nat.le_add_right _ _, fun i hi => by show N'.b (inv2 nx L i) = _; rw [small i hi]; exact hst.b i hi, fun i hi => by show N'.q (inv2 nx L i) = _; rw [small i hi]; exact hst.q i hi, hst.f, hst.fnew, fun g hg => hst.foot g (q2 g hg), hst.os, hst.tape, hst.output, hst.size, hst.keep⟩
    have post : a'.defers = [] ∧ ∃ v, (results fn a'.tmps).run E.P R' = .ok v R' ∧ ∃ y F' N', Ending.returned v = .returned y ∧ HRel F' N' (nx + L.length) (pkObjs nx L s.o o) R' ∧ Step F N nx o R F' N' (nx + L.length) (pkObjs nx L s.o o) R' ∧ Hv F' N' (nx + L.length) R' ((tupA l).pk (rho2 nx L)) y ∧ (k ≤ 1 → Below R.heap.size R R') := by
     refine ⟨h2.defers, y, g2, y, F', nm2 N' nx L, rfl, q1, hst2, g1.pk (pk2 hok (Nat.le_add_right _ _)), fun hk => ?_⟩
     cases o with
     | nil => exact hst.below
     | cons p r => rw [← hk0] at hk; cases hk with | step hk => cases hk
    rcases h1 with rfl | rfl
    ·exact post
    ·exact post
theorem evF_suf {u : Nat} {f : FuncId} {args : List A} {nx : Nat} {o : Objs} {k nx' : Nat} {x : A} {o' : Objs} {ps : List Prop} (he : evF E u f args nx o = some (k, x, nx', o', ps)) : ∃ d, o' = d ++ o := by
 unfold evF at he
 split at he <;> first | (cases he; done) | skip
 split at he <;> first | (cases he; done) | skip
 rename_i c hc
 replace he := bif_some he
 unfold finR at he
 split at he <;> first | (cases he; done) | skip
 rename_i s hs
 split at he <;> first | (cases he; done) | skip
 unfold fin2 at he
 replace he := bif_some he
 cases he
 exact ⟨_, by unfold pkObjs; rw [← List.append_assoc]; rfl⟩
end
def TOk (P : Program) (f : FuncId) (g : List A → Nat → Objs → Option CRes) : Prop :=
 ∀ args nx o k x nx' o' ps, g args nx o = some (k, x, nx', o', ps) → ((∀ p ∈ ps, p) → CallOk P f args nx o k x nx' o') ∧ ∃ d, o' = d ++ o
def COk (P : Program) (C : Tab) : Prop := ∀ f args nx o k x nx' o' ps, C f args nx o = some (k, x, nx', o', ps) → ((∀ p ∈ ps, p) → CallOk P f args nx o k x nx' o') ∧ ∃ d, o' = d ++ o
def EqOk (P : Program) (eq : TypeId → List Value → List Value → Option Bool) : Prop :=
 ∀ t xs ys b, eq t xs ys = some b → P.eqGuardType P.depth t = false ∧ ∀ R, (Op.equalIn 10000 t (.agg xs.toArray) (.agg ys.toArray)).run P R = .ok b R
def TcOk (P : Program) (tc : TypeId → Option TC) : Prop :=
 ∀ t c, tc t = some c → ∃ i, P.info? t = some i ∧ i.size = size c ∧ 0 < size c ∧ ∃ z, i.zero = some z ∧ ∀ (F : Nat → Prop) (N : Nm) (nx : Nat) (R : World), HL F N nx R (enc c (dflt c)) z.cells.toList
abbrev LTab := Nat → St → Option (Code × List Prop × Outs)
def C0 : Tab := fun _ _ _ _ => none
theorem C0_ok {P : Program} : COk P C0 := fun _ _ _ _ _ _ _ _ _ h => by cases h
def L0 : LTab := fun _ _ => none
def addC (f0 : FuncId) (g : List A → Nat → Objs → Option CRes) (C : Tab) : Tab := fun f args nx o => bif Nat.beq f f0 then g args nx o else C f args nx o
theorem addC_ok {P : Program} {f0 : FuncId} {g : List A → Nat → Objs → Option CRes} {C : Tab} (hg : TOk P f0 g) (hC : COk P C) : COk P (addC f0 g C) := fun f args nx o k x nx' o' ps h => by
 unfold addC at h
 cases hb : Nat.beq f f0 with
 | true =>
  rw [hb] at h
  rw [Nat.eq_of_beq_eq_true hb]
  exact hg args nx o k x nx' o' ps h
 | false => rw [hb] at h; exact hC f args nx o k x nx' o' ps h
theorem N0 {p : Prop} {ps : List Prop} (h : ∀ q ∈ p :: ps, q) : p := h _ (List.mem_cons_self ..)
theorem N1 {p : Prop} {ps : List Prop} (h : ∀ q ∈ p :: ps, q) : ∀ q ∈ ps, q := fun q hq => h q (List.mem_cons_of_mem _ hq)
theorem needs_nil : ∀ p ∈ ([] : List Prop), p := fun _ h => by cases h
theorem needs_cons {p : Prop} {ps : List Prop} (h : p) (t : ∀ q ∈ ps, q) : ∀ q ∈ p :: ps, q := fun q hq => by
 rcases List.mem_cons.1 hq with rfl | hq
 ·exact h
 ·exact t q hq
theorem callOk_frame {P : Program} {f : FuncId} {args : List A} {nx k nx' : Nat} {x : A} {o o' : Objs} (h : CallOk P f args nx [] k x nx' o') (hk : k ≤ 1) : CallOk P f args nx o 1 x nx' (o' ++ o) := fun F N R vs hh ha => by
 refine (h F N R vs (hh.noObj) ha).mono fun e R' ⟨y, F', N', e1, e2, e3, e4, e5⟩ => ?_
 obtain ⟨g1, g2⟩ := hh.frame (o1 := []) (o' := o' ++ o) (fun i ob hi => by cases hi) e3 e2 fun i ob hi => by
  rcases lookO_split hi with ⟨_, h1⟩ | ⟨_, h1⟩
  ·exact .inl h1
  ·exact .inr ⟨h1, rfl⟩
 exact ⟨y, F', N', e1, g1, g2, e4, fun _ => e5 hk⟩
def shiftR (nx : Nat) : Nat → Option Nat := fun i => some (nx + i)
def shiftO (nx : Nat) : Objs → Objs
 | [] => []
 | (k, some ob) :: r => (nx + k, some (ob.pk (shiftR nx))) :: shiftO nx r
 | (k, none) :: r => (nx + k, none) :: shiftO nx r
theorem lookO_shift {nx j : Nat} {ob' : Ob} : ∀ {o : Objs}, lookO j (shiftO nx o) = some ob' → ∃ i ob, j = nx + i ∧ lookO i o = some ob ∧ ob' = ob.pk (shiftR nx)
 | [], h => by cases h
 | (k, x) :: r, h => by
  have step : ∀ z, (bif Nat.beq (nx + k) j then z else lookO j (shiftO nx r)) = some ob' → (∀ ob, x = some ob → z = some (ob.pk (shiftR nx))) → (x = none → z = none) → ∃ i ob, j = nx + i ∧ (bif Nat.beq k i then x else lookO i r) = some ob ∧ ob' = ob.pk (shiftR nx) := fun z hz h1 h2 => by
   cases hb : Nat.beq (nx + k) j with
   | true =>
    rw [hb] at hz
    obtain rfl := Nat.eq_of_beq_eq_true hb
    cases x with
    | none => rw [h2 rfl] at hz; cases hz
    | some ob =>
     rw [h1 ob rfl] at hz
     cases hz
     exact ⟨k, ob, rfl, by rw [beq_self]; rfl, rfl⟩
   | false =>
    rw [hb] at hz
    obtain ⟨i, ob, rfl, h3, h4⟩ := lookO_shift hz
    refine ⟨i, ob, rfl, ?_, h4⟩
    rw [beq_ne fun e => by subst e; simp at hb]
    exact h3
  cases x with
  | some ob => exact step _ h (fun ob' e => by cases e; rfl) (fun e => by cases e)
  | none => exact step _ h (fun ob' e => by cases e) (fun _ => rfl)
theorem callOk_shift {P : Program} {f : FuncId} {args : List A} {k m : Nat} {x : A} {os : Objs} (h : CallOk P f args 0 [] k x m os) (hk : k ≤ 1) (hf : freeL args = true) (nx : Nat) (o : Objs) : CallOk P f args nx o 1 (x.pk (shiftR nx)) (nx + m) (shiftO nx os ++ o) := by
 refine callOk_frame (k := 1) (fun F N R vs hh ha => ?_) (Nat.le_refl _)
 refine (h F N R vs hh.noObj (ha.free hf)).mono fun e R' ⟨y, F', N', e1, e2, e3, e4, e5⟩ => ?_
 let N2 : Nm := ⟨fun i => bif Nat.blt i nx then N.b i else N'.b (i - nx), fun i => bif Nat.blt i nx then N.q i else N'.q (i - nx)⟩
 have hbt : ∀ i, Nat.blt (nx + i) nx = false := fun i => by
  cases hb : Nat.blt (nx + i) nx with
  | false => rfl
  | true => exact absurd (Nat.le_of_ble_eq_true hb) (by omega)
 have st : Pk (shiftR nx) N' m N2 (nx + m) := fun i j hi hj => by
  cases hj
  refine ⟨by omega, ?_, ?_⟩
  ·show (bif Nat.blt (nx + i) nx then N.b (nx + i) else N'.b (nx + i - nx)) = _
   rw [hbt, Nat.add_sub_cancel_left]; rfl
  ·show (bif Nat.blt (nx + i) nx then N.q (nx + i) else N'.q (nx + i - nx)) = _
   rw [hbt, Nat.add_sub_cancel_left]; rfl
 obtain ⟨g1, g2⟩ := e2.pk (o' := shiftO nx os) st fun j ob' hj => by
  obtain ⟨i, ob, rfl, h3, h4⟩ := lookO_shift hj
  exact ⟨i, ob, rfl, h3, h4⟩
 have hlt : ∀ i, i < nx → Nat.blt i nx = true := fun i hi => Nat.ble_eq_true_of_le hi
 refine ⟨y, F', N2, e1, g1, ⟨Nat.le_add_right _ _, fun i hi => by show (bif Nat.blt i nx then N.b i else _) = _; rw [hlt i hi]; rfl, fun i hi => by show (bif Nat.blt i nx then N.q i else _) = _; rw [hlt i hi]; rfl, e3.f, fun g hg => ?_, fun g hg => ?_, e3.os, e3.tape, e3.output, e3.size, fun g hg hn => e3.keep g hg fun ⟨i, ob, hi, _⟩ => by cases hi⟩, e4.pk st, fun _ => e5 hk⟩
 ·rcases e3.fnew g hg with h1 | ⟨i, ob, hi, _⟩ | h1
  ·exact .inl h1
  ·cases hi
  ·exact .inr (.inr h1)
 ·rcases e3.foot g (g2 g hg) with ⟨i, ob, hi, _⟩ | h1
  ·cases hi
  ·exact .inr h1
def inl (E : Env) (u : Nat) (f : FuncId) : List A → Nat → Objs → Option CRes := fun args nx o =>
 bif freeL args then (match evF E u f args nx [] with
  | some (k, x, nx', o', ps) => bif Nat.ble k 1 then some (1, x, nx', o' ++ o, ps) else none
  | none => none) else evF E u f args nx o
theorem inl_ok {E : Env} (ok : CodeOk E) (u : Nat) (f : FuncId) : TOk E.P f (inl E u f) := fun args nx o k x nx' o' ps h => by
 unfold inl at h
 cases hf : freeL args with
 | true =>
  rw [hf] at h
  simp only [cond_true] at h
  split at h <;> first | (cases h; done) | skip
  rename_i k1 x1 nx1 o1 ps1 he
  cases hk : Nat.ble k1 1 with
  | false => rw [hk] at h; cases h
  | true =>
   rw [hk] at h
   cases h
   exact ⟨fun hp => callOk_frame (evF_ok ok he hp) (Nat.le_of_ble_eq_true hk), _, rfl⟩
 | false =>
  rw [hf] at h
  exact ⟨fun hp => evF_ok ok h hp, evF_suf h⟩
end Go.Proofs.YtkknpeeccejppaaDoor
namespace Go.Proofs.YtkknpeeccejppaaDoor
open Go.RowKit
inductive Dir where
 | frz (i : Nat)
 | nil (u : Nat) (t : TypeId) (c : TC)
 | nilB (b j : Nat) (t : TypeId) (c : TC)
 | ty (i : Nat) (c : TC)
 | nilF (u : Nat) (c : TC)
 | nilFB (b j : Nat) (c : TC)
 | nilD (u : Nat) (t : TypeId) (c : TC)
 | seg (i : Nat) (p : List (Option (TC × Nat)))
 | avd (u : Nat) (c : TC) (n : Nat)
 | nilR (b j : Nat) (t : TypeId) (c : TC)
 | nilE (b j : Nat) (t : TypeId) (c : TC)
def decL (c : TC) : List A → Option (List (U c) × List Prop)
 | [] => some ([], [])
 | x :: r => match dec c [x], decL c r with
  | some (d, ps), some (l, qs) => some (d :: l, ps ++ qs)
  | _, _ => none
theorem decL_ok {F : Nat → Prop} {N : Nm} {nx : Nat} {R : World} {c : TC} (h1 : c.one = true) : ∀ {cs : List A} {vs : List Value} {l : List (U c)} {ps : List Prop}, HL F N nx R cs vs → decL c cs = some (l, ps) → (∀ p ∈ ps, p) → l.length = cs.length ∧ vs = l.map (sv c)
 | [], vs, l, ps, h, he, _ => by
  cases he
  exact ⟨rfl, h.inv0⟩
 | x :: r, vs, l, ps, h, he, hp => by
  obtain ⟨y, ys, rfl, g1, g2⟩ := h.inv
  unfold decL at he
  split at he <;> first | (cases he; done) | skip
  rename_i d qs l' qs' hd hl
  cases he
  obtain ⟨k1, k2⟩ := decL_ok h1 g2 hl fun p hm => hp p (List.mem_append.2 (.inr hm))
  have h5 := dec_ok hd (fun p hm => hp p (List.mem_append.2 (.inl hm))) _ (HL.cons g1 HL.nil)
  rw [enc_sv h1] at h5
  obtain ⟨v', vs', w1, w2, _⟩ := h5.inv
  cases w1
  refine ⟨by rw [List.length_cons, List.length_cons, k1], ?_⟩
  rw [List.map_cons, ← w2.v_inv, k2]
def segL : List (Option (TC × Nat)) → List A → Option (List A × List Prop)
 | [], [] => some ([], [])
 | none :: p, .v x :: r => bif x.oneCell' then (match segL p r with
  | some (l, ps) => some (.v x :: l, ps)
  | none => none) else none
 | none :: p, .sl c l :: r => match segL p r with
  | some (xs, ps) => some (.sl c l :: xs, ps)
  | none => none
 | none :: p, .nl :: r => match segL p r with
  | some (xs, ps) => some (.nl :: xs, ps)
  | none => none
 | some (c, n) :: p, cs => bif c.one && Nat.ble n cs.length then (bif Nat.blt 64 n && zeroL c (cs.take n) then (match segL p (cs.drop n) with
  | some (r, qs) => some (.av c n (List.replicate n (dflt c)) :: r, qs)
  | none => none) else (match decL c (cs.take n), segL p (cs.drop n) with
  | some (l, ps), some (r, qs) => some (.av c n l :: r, ps ++ qs)
  | _, _ => none)) else none
 | _, _ => none
theorem segL_ok {F : Nat → Prop} {N : Nm} {nx : Nat} {R : World} : ∀ {p : List (Option (TC × Nat))} {cs : List A} {vs : List Value} {xs : List A} {ps : List Prop}, HL F N nx R cs vs → segL p cs = some (xs, ps) → (∀ p ∈ ps, p) → HW F N nx R xs vs
 | [], cs, vs, xs, ps, h, he, _ => by
  cases cs with
  | nil => cases he; exact h.inv0
  | cons x r => cases he
 | none :: p, cs, vs, xs, ps, h, he, hp => by
  cases cs with
  | nil => cases he
  | cons x r =>
   obtain ⟨y, ys, rfl, g1, g2⟩ := h.inv
   cases x <;> first | (cases he; done) | skip
   ·rename_i x
    unfold segL at he
    cases ho : x.oneCell' with
    | false => rw [ho] at he; cases he
    | true =>
     rw [ho, cond_true] at he
     split at he <;> first | (cases he; done) | skip
     rename_i l qs hl
     cases he
     have e := g1.v_inv
     subst e
     exact ⟨y, ys, by rw [one_cells ho]; rfl, g1, fun _ => ho, segL_ok g2 hl hp⟩
   ·unfold segL at he
    split at he <;> first | (cases he; done) | skip
    rename_i l qs hl
    cases he
    obtain ⟨a, cap, e, _⟩ := g1.sl_inv
    have ho : y.oneCell' = true := by rw [e]; rfl
    exact ⟨y, ys, by rw [one_cells ho]; rfl, g1, fun _ => ho, segL_ok g2 hl hp⟩
   ·unfold segL at he
    split at he <;> first | (cases he; done) | skip
    rename_i l qs hl
    cases he
    obtain ⟨a, e⟩ := g1.nl_inv
    have ho : y.oneCell' = true := by rw [e]; rfl
    exact ⟨y, ys, by rw [one_cells ho]; rfl, g1, fun _ => ho, segL_ok g2 hl hp⟩
 | some (c, n) :: p, cs, vs, xs, ps, h, he, hp => by
  unfold segL at he
  cases hb : (c.one && Nat.ble n cs.length) with
  | false => rw [hb] at he; cases he
  | true =>
   rw [hb, cond_true] at he
   rw [Bool.and_eq_true] at hb
   have hn := Nat.le_of_ble_eq_true hb.2
   cases hz : (Nat.blt 64 n && zeroL c (cs.take n)) with
   | true =>
   rw [hz, cond_true] at he
   rw [Bool.and_eq_true] at hz
   replace hz := hz.2
   split at he <;> first | (cases he; done) | skip
   rename_i r qs hl
   cases he
   have q2 := zeroL_ok (h.take n) hz
   rw [List.length_take, Nat.min_eq_left hn] at q2
   exact ⟨.agg ((List.replicate n (dflt c)).map (sv c)).toArray, vs.drop n, by rw [show (Value.agg ((List.replicate n (dflt c)).map (sv c)).toArray).cells.toList = (List.replicate n (dflt c)).map (sv c) by simp [Value.cells], ← q2, List.take_append_drop], .av hb.1 (by rw [List.length_replicate]), fun e => (by cases e), segL_ok (h.drop n) hl hp⟩
   | false =>
   rw [hz, cond_false] at he
   split at he <;> first | (cases he; done) | skip
   rename_i l qs r qs' hd hl
   cases he
   obtain ⟨q1, q2⟩ := decL_ok hb.1 (h.take n) hd fun p hm => hp p (List.mem_append.2 (.inl hm))
   have q3 := segL_ok (h.drop n) hl fun p hm => hp p (List.mem_append.2 (.inr hm))
   rw [List.length_take, Nat.min_eq_left hn] at q1
   exact ⟨.agg (l.map (sv c)).toArray, vs.drop n, by rw [show (Value.agg (l.map (sv c)).toArray).cells.toList = l.map (sv c) by simp [Value.cells], ← q2, List.take_append_drop], .av hb.1 q1, fun e => (by cases e), q3⟩
def argA (c : TC) (n : Nat) : A → Option (List (U c) × List Prop)
 | .av c' n' l => match TC.same c' c with
  | some h => bif Nat.beq n' n then some (castL h.down l, []) else none
  | none => none
 | .v (.agg xs) => bif c.one then (match decL c (toL xs.toList) with
  | some (l, ps) => bif Nat.beq xs.size n then some (l, ps) else none
  | none => none) else none
 | .agg xs => bif c.one then (match decL c xs with
  | some (l, ps) => bif Nat.beq xs.length n then some (l, ps) else none
  | none => none) else none
 | _ => none
theorem argA_ok {F : Nat → Prop} {N : Nm} {nx : Nat} {R : World} {c : TC} {n : Nat} {x : A} {l : List (U c)} {ps : List Prop} {v : Value} (he : argA c n x = some (l, ps)) (hp : ∀ p ∈ ps, p) (h : Hv F N nx R x v) : Hv F N nx R (.av c n l) v := by
 unfold argA at he
 split at he <;> first | (cases he; done) | skip
 ·split at he <;> first | (cases he; done) | skip
  rename_i c' n' l' _ h1 _
  obtain ⟨h1⟩ := h1
  subst h1
  cases hb : Nat.beq n' n with
  | false => rw [hb] at he; cases he
  | true =>
   rw [hb] at he
   obtain rfl := Nat.eq_of_beq_eq_true hb
   cases he
   exact h
 ·rename_i xs
  cases h1 : c.one with
  | false => rw [h1] at he; cases he
  | true =>
   rw [h1, cond_true] at he
   split at he <;> first | (cases he; done) | skip
   rename_i l' ps' hd
   cases hb : Nat.beq xs.size n with
   | false => rw [hb] at he; cases he
   | true =>
    rw [hb] at he
    cases he
    obtain ⟨g1, g2⟩ := decL_ok h1 (HL.toL (F := F) (N := N) (nx := nx) (R := R) xs.toList) hd hp
    have hv := h.v_inv
    subst hv
    have e : (Value.agg xs) = .agg (l.map (sv c)).toArray := by rw [← g2]
    rw [e]
    refine .av h1 ?_
    rw [g1, ← Nat.eq_of_beq_eq_true hb, ← HL.length (HL.toL (F := F) (N := N) (nx := nx) (R := R) xs.toList)]
    simp
 ·rename_i xs
  cases h1 : c.one with
  | false => rw [h1] at he; cases he
  | true =>
   rw [h1, cond_true] at he
   split at he <;> first | (cases he; done) | skip
   rename_i l' ps' hd
   cases hb : Nat.beq xs.length n with
   | false => rw [hb] at he; cases he
   | true =>
    rw [hb] at he
    cases he
    obtain ⟨vs, rfl, h2⟩ := h.agg_inv
    obtain ⟨g1, g2⟩ := decL_ok h1 h2 hd hp
    rw [g2]
    exact .av h1 (g1.trans (Nat.eq_of_beq_eq_true hb))
def isNilA : A → Bool
 | .v x => isNilV x
 | .nl => true
 | _ => false
def isNilA1 : A → Bool
 | .v x => isNilV x
 | _ => false
def adj1 (E : Env) (s : St) : Dir → Option (St × List Prop)
 | .frz i => freezeS E i s
 | .nil u t c => match look u s.t with
  | some x => bif isNilA x then some (⟨s.n, s.nx + 1, (u, .sq s.nx) :: s.t, (s.nx, some (.arr t (size c) (.ty c []))) :: s.o⟩, []) else none
  | none => none
 | .nilB b j t c => match lookO b s.o with
  | some (.box e cs) => match cs[j]? with
   | some x => bif isNilA1 x then (bif Nat.blt b s.nx then some (⟨s.n, s.nx + 1, s.t, (b, some (.box e (cs.set j (.sq s.nx)))) :: (s.nx, some (.arr t (size c) (.ty c []))) :: s.o⟩, []) else none) else none
   | none => none
  | _ => none
 | .nilF u c => match look u s.t with
  | some x => bif isNilA x then some (⟨s.n, s.nx, (u, .sl c []) :: s.t, s.o⟩, []) else none
  | none => none
 | .nilFB b j c => match lookO b s.o with
  | some (.box e cs) => match cs[j]? with
   | some x => bif isNilA x then some (⟨s.n, s.nx, s.t, (b, some (.box e (cs.set j (.sl c [])))) :: s.o⟩, []) else none
   | none => none
  | _ => none
 | .ty i c => match lookO i s.o with
  | some (.arr e sz els) => match elsTy c els with
   | some (l, ps) => some (⟨s.n, s.nx, s.t, (i, some (.arr e sz (.ty c l))) :: s.o⟩, ps)
   | none => none
  | _ => none
 | .nilD u t c => match look u s.t, colOf c with
  | some x, some _ => bif isNilA1 x then some (⟨s.n, s.nx + 1, (u, .dq s.nx) :: s.t, (s.nx, some (.deep t c [])) :: s.o⟩, []) else none
  | _, _ => none
 | .seg i p => match lookO i s.o with
  | some (.box e cs) => match segL p cs with
   | some (xs, ps) => some (⟨s.n, s.nx, s.t, (i, some (.rcd e xs)) :: s.o⟩, ps)
   | none => none
  | _ => none
 | .avd u c n => match look u s.t with
  | some x => bif x.plain then (match argA c n x with
   | some (l, ps) => some (⟨s.n, s.nx, (u, .av c n l) :: s.t, s.o⟩, ps)
   | none => none) else none
  | none => none
 | .nilR b j t c => match lookO b s.o with
  | some (.rcd e xs) => match xs[j]? with
   | some x => bif isNilA1 x then (bif Nat.blt b s.nx then some (⟨s.n, s.nx + 1, s.t, (b, some (.rcd e (xs.set j (.sq s.nx)))) :: (s.nx, some (.arr t (size c) (.ty c []))) :: s.o⟩, []) else none) else none
   | none => none
  | _ => none
 | .nilE b j t c => match lookO b s.o, colOf c with
  | some (.rcd e xs), some _ => match xs[j]? with
   | some x => bif isNilA1 x then (bif Nat.blt b s.nx then some (⟨s.n, s.nx + 1, s.t, (b, some (.rcd e (xs.set j (.dq s.nx)))) :: (s.nx, some (.deep t c [])) :: s.o⟩, []) else none) else none
   | none => none
  | _, _ => none
theorem HW.setItem {F : Nat → Prop} {N : Nm} {nx : Nat} {R : World} {y : A} (hy0 : isAv y = false) : ∀ {xs : List A} {us : List Value} {j : Nat} {x : A}, HW F N nx R xs us → xs[j]? = some x → isAv x = false → (∀ v, Hv F N nx R x v → Hv F N nx R y v) → HW F N nx R (xs.set j y) us
 | [], _, j, _, _, hx, _, _ => by cases j <;> cases hx
 | z :: r, us, 0, x, ⟨v, t, h1, h2, h3, h4⟩, hx, hx0, hy => by
  cases hx
  exact ⟨v, t, h1, hy v h2, fun _ => h3 hx0, h4⟩
 | z :: r, us, j + 1, x, ⟨v, t, h1, h2, h3, h4⟩, hx, hx0, hy => ⟨v, t, h1, h2, h3, HW.setItem hy0 (j := j) h4 hx hx0 hy⟩
def adj (E : Env) : List Dir → St → Option (St × List Prop)
 | [], s => some (s, [])
 | d :: r, s => match adj1 E s d with
  | some (s', ps) => match adj E r s' with
   | some (s'', qs) => some (s'', ps ++ qs)
   | none => none
  | none => none
section
variable {E : Env} {Z : Base} {F : Nat → Prop} {N : Nm} {s : St} {a : Act} {R : World}
theorem Rel.word (h : Rel Z F N s a R) {u : Nat} {x : A} (hx : Hv F N s.nx R x (tmOf a u)) : Rel Z F N ⟨s.n, s.nx, (u, x) :: s.t, s.o⟩ a R :=
 ⟨h.defers, h.size, fun v z hv => by
  have hv' : (bif Nat.beq u v then some x else look v s.t) = some z := hv
  cases hb : Nat.beq u v with
  | true =>
   rw [hb] at hv'
   obtain rfl := Nat.eq_of_beq_eq_true hb
   cases hv'
   exact (HS_plain hx.isPlain).2 hx
  | false => rw [hb] at hv'; exact h.slots v z hv', h.hp, h.st, h.tm⟩
theorem isNilA_plain {x : A} (h : isNilA x = true) : x.plain = true := by cases x <;> first | rfl | cases h
theorem isNilA_ok {x : A} {y : Value} {nx : Nat} (h : isNilA x = true) (hx : Hv F N nx R x y) : ∃ b, y = .slice b 0 0 := by
 cases x <;> first | (cases h; done) | skip
 ·rw [hx.v_inv, isNilV_ok h]; exact ⟨none, rfl⟩
 ·exact hx.nl_inv
theorem isNilA1_ok {x : A} {y : Value} {nx : Nat} (h : isNilA1 x = true) (hx : Hv F N nx R x y) : y = .slice none 0 0 := by
 cases x <;> first | (cases h; done) | skip
 rw [hx.v_inv, isNilV_ok h]
theorem isNilA1_plain {x : A} (h : isNilA1 x = true) : x.plain = true := by cases x <;> first | rfl | cases h
theorem HL.set {nx : Nat} {xs : List A} {vs : List Value} {j : Nat} {y : A} (h : HL F N nx R xs vs) (hy : ∀ v, vs[j]? = some v → Hv F N nx R y v) : HL F N nx R (xs.set j y) vs := by
 refine HL.of (by rw [List.length_set]; exact h.length) fun i x v hx hv => ?_
 by_cases hij : j = i
 ·subst hij
  have hlt : j < xs.length := by have := (List.getElem?_eq_some_iff.1 hx).1; rwa [List.length_set] at this
  rw [List.getElem?_set_self hlt] at hx
  cases hx
  exact hy v hv
 ·rw [List.getElem?_set_ne hij] at hx
  obtain ⟨w, h1, h2⟩ := h.get hx
  rw [hv] at h1
  cases h1
  exact h2
theorem HRel.nilRowB {nx : Nat} {o : Objs} (h : HRel F N nx o R) (b : Option Addr) {m : Nat} (t : TypeId) (sz : Nat) {els : Els} (he : els.n = 0) (hm : nx ≤ m) :
  HRel F (N.setQ m (.slice b 0 0)) (m + 1) ((m, some (.arr t sz els)) :: o) R ∧ Step F N nx o R F (N.setQ m (.slice b 0 0)) (m + 1) ((m, some (.arr t sz els)) :: o) R :=
 h.nilG _ hm (fun hqm => ⟨[], by rw [hqm]; exact ⟨by rw [he]; simp, .inl ⟨b, rfl, he⟩⟩, fun j hj => absurd hj (by omega)⟩) fun hqm g hg => by
  have hg' : blkOf ((N.setQ m (.slice b 0 0)).q m) = some g := hg
  rw [hqm] at hg'
  cases b <;> cases hg'
theorem adj1_ok (h : At Z a R s) {d : Dir} {s' : St} {ps : List Prop} (he : adj1 E s d = some (s', ps)) (hp : ∀ p ∈ ps, p) : At Z a R s' := by
 obtain ⟨F, N, h⟩ := h
 cases d with
 | frz i =>
  obtain ⟨F', h'⟩ := freeze_ok h he hp
  exact ⟨F', N, h'⟩
 | nil u t c =>
  unfold adj1 at he
  simp only at he
  split at he <;> first | (cases he; done) | skip
  rename_i x hx
  cases hn : isNilA x with
  | false => rw [hn] at he; cases he
  | true =>
   rw [hn] at he
   cases he
   obtain ⟨b, hv⟩ := isNilA_ok hn ((HS_plain (isNilA_plain hn)).1 (h.slots u x hx))
   obtain ⟨q1, q2⟩ := h.hp.nilRowB b t (size c) (els := .ty c []) rfl (Nat.le_refl _)
   have h2 := h.heap q2 q1
   refine ⟨_, _, h2.word (u := u) ?_⟩
   rw [hv]
   have := Hv.sq (F := F) (N := N.setQ s.nx (.slice b 0 0)) (nx := s.nx + 1) (R := R) (Nat.lt_succ_self s.nx)
   have e : (N.setQ s.nx (.slice b 0 0)).q s.nx = .slice b 0 0 := setF_same N.q s.nx _
   rw [e] at this
   exact this
 | nilD u t c =>
  unfold adj1 at he
  simp only at he
  split at he <;> first | (cases he; done) | skip
  rename_i x cc hx hc
  cases hn : isNilA1 x with
  | false => rw [hn] at he; cases he
  | true =>
   rw [hn] at he
   cases he
   have hv := isNilA1_ok hn ((HS_plain (isNilA1_plain hn)).1 (h.slots u x hx))
   obtain ⟨q1, q2⟩ := h.hp.nilD t hc (Nat.le_refl _)
   have h2 := h.heap q2 q1
   refine ⟨_, _, h2.word (u := u) ?_⟩
   rw [hv]
   have := Hv.dq (F := F) (N := N.setQ s.nx (nilQ true)) (nx := s.nx + 1) (R := R) (Nat.lt_succ_self s.nx)
   have e : (N.setQ s.nx (nilQ true)).q s.nx = nilQ true := setF_same N.q s.nx _
   rw [e] at this
   exact this
 | nilB b j t c =>
  unfold adj1 at he
  simp only at he
  split at he <;> first | (cases he; done) | skip
  rename_i e cs hl
  split at he <;> first | (cases he; done) | skip
  rename_i x hx
  cases hn : isNilA1 x with
  | false => rw [hn] at he; cases he
  | true =>
   rw [hn] at he
   cases hb : Nat.blt b s.nx with
   | false => rw [hb] at he; cases he
   | true =>
    rw [hb] at he
    cases he
    have hbn : b < s.nx := Nat.le_of_ble_eq_true hb
    obtain ⟨q1, q2⟩ := h.hp.nilRow t (size c) (els := .ty c []) rfl (Nat.le_refl _)
    have e0 : (N.setQ s.nx (.slice none 0 0)).q s.nx = .slice none 0 0 := setF_same N.q s.nx _
    obtain ⟨r1, r2⟩ := q1.less (o' := (b, some (.box e (cs.set j (.sq s.nx)))) :: (s.nx, some (.arr t (size c) (.ty c []))) :: s.o) fun i ob hi => by
     rw [lookO_cons] at hi
     by_cases hib : i = b
     ·rw [if_pos hib] at hi
      cases hi
      subst hib
      refine ⟨.box e cs, by rw [lookO_cons, if_neg (by omega)]; exact hl, fun ⟨vs, k1, k2⟩ => ⟨vs, k1.set fun v hv => ?_, k2⟩, fun g => Iff.rfl⟩
      obtain ⟨w, k3, k4⟩ := k1.get hx
      rw [hv] at k3
      cases k3
      rw [isNilA1_ok hn k4]
      have := Hv.sq (F := F) (N := N.setQ s.nx (.slice none 0 0)) (nx := s.nx + 1) (R := R) (Nat.lt_succ_self s.nx)
      rw [e0] at this
      exact this
     ·rw [if_neg hib] at hi
      exact ⟨ob, hi, id, fun g => Iff.rfl⟩
    exact ⟨_, _, h.heap (q2.trans r2) r1⟩
 | nilF u c =>
  unfold adj1 at he
  simp only at he
  split at he <;> first | (cases he; done) | skip
  rename_i x hx
  cases hn : isNilA x with
  | false => rw [hn] at he; cases he
  | true =>
   rw [hn] at he
   cases he
   obtain ⟨b, hv⟩ := isNilA_ok hn ((HS_plain (isNilA_plain hn)).1 (h.slots u x hx))
   exact ⟨_, _, h.word (u := u) (Hv.sl_nil hv)⟩
 | nilFB b j c =>
  unfold adj1 at he
  simp only at he
  split at he <;> first | (cases he; done) | skip
  rename_i e cs hl
  split at he <;> first | (cases he; done) | skip
  rename_i x hx
  cases hn : isNilA x with
  | false => rw [hn] at he; cases he
  | true =>
   rw [hn] at he
   cases he
   obtain ⟨r1, r2⟩ := h.hp.less (o' := (b, some (.box e (cs.set j (.sl c [])))) :: s.o) fun i ob hi => by
    rw [lookO_cons] at hi
    by_cases hib : i = b
    ·rw [if_pos hib] at hi
     cases hi
     subst hib
     refine ⟨.box e cs, hl, fun ⟨vs, k1, k2⟩ => ⟨vs, k1.set fun v hv => ?_, k2⟩, fun g => Iff.rfl⟩
     obtain ⟨w, k3, k4⟩ := k1.get hx
     rw [hv] at k3
     cases k3
     obtain ⟨b, hb⟩ := isNilA_ok hn k4
     exact Hv.sl_nil hb
    ·rw [if_neg hib] at hi
     exact ⟨ob, hi, id, fun g => Iff.rfl⟩
   exact ⟨_, _, h.heap r2 r1⟩
 | seg i p =>
  unfold adj1 at he
  simp only at he
  split at he <;> first | (cases he; done) | skip
  rename_i e cs hl
  split at he <;> first | (cases he; done) | skip
  rename_i xs qs hd
  cases he
  obtain ⟨r1, r2⟩ := h.hp.less (o' := (i, some (.rcd e xs)) :: s.o) fun k ob hi => by
   rw [lookO_cons] at hi
   by_cases hib : k = i
   ·rw [if_pos hib] at hi
    cases hi
    subst hib
    exact ⟨.box e cs, hl, fun ⟨vs, k1, k2⟩ => ⟨vs, segL_ok k1 hd hp, k2⟩, fun g => Iff.rfl⟩
   ·rw [if_neg hib] at hi
    exact ⟨ob, hi, id, fun g => Iff.rfl⟩
  exact ⟨_, _, h.heap r2 r1⟩
 | nilR b j t c =>
  unfold adj1 at he
  simp only at he
  split at he <;> first | (cases he; done) | skip
  rename_i e xs hl
  split at he <;> first | (cases he; done) | skip
  rename_i x hx
  cases hn : isNilA1 x with
  | false => rw [hn] at he; cases he
  | true =>
   rw [hn] at he
   cases hb : Nat.blt b s.nx with
   | false => rw [hb] at he; cases he
   | true =>
    rw [hb] at he
    cases he
    have hbn : b < s.nx := Nat.le_of_ble_eq_true hb
    obtain ⟨q1, q2⟩ := h.hp.nilRow t (size c) (els := .ty c []) rfl (Nat.le_refl _)
    have e0 : (N.setQ s.nx (.slice none 0 0)).q s.nx = .slice none 0 0 := setF_same N.q s.nx _
    have hx0 : isAv x = false := by cases x <;> first | rfl | cases hn
    obtain ⟨r1, r2⟩ := q1.less (o' := (b, some (.rcd e (xs.set j (.sq s.nx)))) :: (s.nx, some (.arr t (size c) (.ty c []))) :: s.o) fun i ob hi => by
     rw [lookO_cons] at hi
     by_cases hib : i = b
     ·rw [if_pos hib] at hi
      cases hi
      subst hib
      refine ⟨.rcd e xs, by rw [lookO_cons, if_neg (by omega)]; exact hl, fun ⟨us, k1, k2⟩ => ⟨us, k1.setItem rfl hx hx0 fun v hv => ?_, k2⟩, fun g => Iff.rfl⟩
      rw [isNilA1_ok hn hv]
      have := Hv.sq (F := F) (N := N.setQ s.nx (.slice none 0 0)) (nx := s.nx + 1) (R := R) (Nat.lt_succ_self s.nx)
      rw [e0] at this
      exact this
     ·rw [if_neg hib] at hi
      exact ⟨ob, hi, id, fun g => Iff.rfl⟩
    exact ⟨_, _, h.heap (q2.trans r2) r1⟩
 | nilE b j t c =>
  unfold adj1 at he
  simp only at he
  split at he <;> first | (cases he; done) | skip
  rename_i e xs cc hl hc
  split at he <;> first | (cases he; done) | skip
  rename_i x hx
  cases hn : isNilA1 x with
  | false => rw [hn] at he; cases he
  | true =>
   rw [hn] at he
   cases hb : Nat.blt b s.nx with
   | false => rw [hb] at he; cases he
   | true =>
    rw [hb] at he
    cases he
    have hbn : b < s.nx := Nat.le_of_ble_eq_true hb
    obtain ⟨q1, q2⟩ := h.hp.nilD t hc (Nat.le_refl _)
    have e0 : (N.setQ s.nx (nilQ true)).q s.nx = nilQ true := setF_same N.q s.nx _
    have hx0 : isAv x = false := by cases x <;> first | rfl | cases hn
    obtain ⟨r1, r2⟩ := q1.less (o' := (b, some (.rcd e (xs.set j (.dq s.nx)))) :: (s.nx, some (.deep t c [])) :: s.o) fun i ob hi => by
     rw [lookO_cons] at hi
     by_cases hib : i = b
     ·rw [if_pos hib] at hi
      cases hi
      subst hib
      refine ⟨.rcd e xs, by rw [lookO_cons, if_neg (by omega)]; exact hl, fun ⟨us, k1, k2⟩ => ⟨us, k1.setItem rfl hx hx0 fun v hv => ?_, k2⟩, fun g => Iff.rfl⟩
      rw [isNilA1_ok hn hv]
      have := Hv.dq (F := F) (N := N.setQ s.nx (nilQ true)) (nx := s.nx + 1) (R := R) (Nat.lt_succ_self s.nx)
      rw [e0] at this
      exact this
     ·rw [if_neg hib] at hi
      exact ⟨ob, hi, id, fun g => Iff.rfl⟩
    exact ⟨_, _, h.heap (q2.trans r2) r1⟩
 | avd u c n =>
  unfold adj1 at he
  simp only at he
  split at he <;> first | (cases he; done) | skip
  rename_i x hx
  cases hn : x.plain with
  | false => rw [hn] at he; cases he
  | true =>
   rw [hn, cond_true] at he
   split at he <;> first | (cases he; done) | skip
   rename_i l qs hd
   cases he
   exact ⟨_, _, h.word (u := u) (argA_ok hd hp ((HS_plain hn).1 (h.slots u x hx)))⟩
 | ty i c =>
  unfold adj1 at he
  simp only at he
  split at he <;> first | (cases he; done) | skip
  rename_i e sz els hl
  split at he <;> first | (cases he; done) | skip
  rename_i l qs hty
  cases he
  obtain ⟨r1, r2⟩ := h.hp.less (o' := (i, some (.arr e sz (.ty c l))) :: s.o) fun k ob hi => by
   rw [lookO_cons] at hi
   by_cases hib : k = i
   ·rw [if_pos hib] at hi
    cases hi
    subst hib
    refine ⟨.arr e sz els, hl, fun ⟨zs, k1, k2⟩ => ?_, fun g => Iff.rfl⟩
    obtain ⟨e1, _⟩ := elsTy_ok (F := F) (N := N) (nx := s.nx) (R := R) hty hp
    have hr := RowHL.ty (els := els) ⟨k1.1, k2⟩ hty hp
    have hn : (Els.ty c l).n = els.n := e1
    exact ⟨zs, by rw [hn]; exact k1, hr.2⟩
   ·rw [if_neg hib] at hi
    exact ⟨ob, hi, id, fun g => Iff.rfl⟩
  exact ⟨_, _, h.heap r2 r1⟩
theorem adj_ok : ∀ {D : List Dir} {s s' : St} {ps : List Prop}, At Z a R s → adj E D s = some (s', ps) → (∀ p ∈ ps, p) → At Z a R s'
 | [], s, s', ps, h, he, _ => by cases he; exact h
 | d :: r, s, s', ps, h, he, hp => by
  unfold adj at he
  split at he <;> first | (cases he; done) | skip
  rename_i s1 ps1 h1
  split at he <;> first | (cases he; done) | skip
  rename_i s2 ps2 h2
  cases he
  exact adj_ok (adj1_ok h h1 fun p hm => hp p (List.mem_append.2 (.inl hm))) h2 fun p hm => hp p (List.mem_append.2 (.inr hm))
theorem adj_sub : ∀ {D : List Dir} {s s' : St} {ps : List Prop}, adj E D s = some (s', ps) → Sub s s'
 | [], s, s', ps, he => by cases he; exact Sub.refl _
 | d :: r, s, s', ps, he => by
  unfold adj at he
  split at he <;> first | (cases he; done) | skip
  rename_i s1 ps1 h1
  split at he <;> first | (cases he; done) | skip
  rename_i s2 ps2 h2
  cases he
  refine Sub.trans ?_ (adj_sub h2)
  cases d with
  | frz i => exact ⟨(freeze_sub h1).1, (freeze_sub h1).2⟩
  | nil u t c =>
   unfold adj1 at h1
   simp only at h1
   split at h1 <;> first | (cases h1; done) | skip
   replace h1 := bif_some h1
   cases h1
   exact ⟨rfl, [_], rfl⟩
  | nilD u t c =>
   unfold adj1 at h1
   simp only at h1
   split at h1 <;> first | (cases h1; done) | skip
   replace h1 := bif_some h1
   cases h1
   exact ⟨rfl, [_], rfl⟩
  | nilB b j t c =>
   unfold adj1 at h1
   simp only at h1
   split at h1 <;> first | (cases h1; done) | skip
   split at h1 <;> first | (cases h1; done) | skip
   replace h1 := bif_some (bif_some h1)
   cases h1
   exact ⟨rfl, [_, _], rfl⟩
  | nilF u c =>
   unfold adj1 at h1
   simp only at h1
   split at h1 <;> first | (cases h1; done) | skip
   replace h1 := bif_some h1
   cases h1
   exact ⟨rfl, [], rfl⟩
  | nilFB b j c =>
   unfold adj1 at h1
   simp only at h1
   split at h1 <;> first | (cases h1; done) | skip
   split at h1 <;> first | (cases h1; done) | skip
   replace h1 := bif_some h1
   cases h1
   exact ⟨rfl, [_], rfl⟩
  | seg i p =>
   unfold adj1 at h1
   simp only at h1
   split at h1 <;> first | (cases h1; done) | skip
   split at h1 <;> first | (cases h1; done) | skip
   cases h1
   exact ⟨rfl, [_], rfl⟩
  | nilR b j t c =>
   unfold adj1 at h1
   simp only at h1
   split at h1 <;> first | (cases h1; done) | skip
   split at h1 <;> first | (cases h1; done) | skip
   replace h1 := bif_some h1
   replace h1 := bif_some h1
   cases h1
   exact ⟨rfl, [_, _], rfl⟩
  | nilE b j t c =>
   unfold adj1 at h1
   simp only at h1
   split at h1 <;> first | (cases h1; done) | skip
   split at h1 <;> first | (cases h1; done) | skip
   replace h1 := bif_some h1
   replace h1 := bif_some h1
   cases h1
   exact ⟨rfl, [_, _], rfl⟩
  | avd u c n =>
   unfold adj1 at h1
   simp only at h1
   split at h1 <;> first | (cases h1; done) | skip
   replace h1 := bif_some h1
   split at h1 <;> first | (cases h1; done) | skip
   cases h1
   exact ⟨rfl, [], rfl⟩
  | ty i c =>
   unfold adj1 at h1
   simp only at h1
   split at h1 <;> first | (cases h1; done) | skip
   split at h1 <;> first | (cases h1; done) | skip
   cases h1
   exact ⟨rfl, [_], rfl⟩
end
def okL (nb nx1 : Nat) : Ren2 → Bool
 | [] => true
 | (k, j) :: r => Nat.blt j nx1 && ((bif Nat.blt j nb then Nat.beq k j else true) && (isNone (fwd r k) && (isNone (bck r j) && okL nb nx1 r)))
theorem fwd_okL {nb nx1 : Nat} : ∀ {L : Ren2} {i j : Nat}, okL nb nx1 L = true → fwd L i = some j → bck L j = some i ∧ j < nx1 ∧ (j < nb → i = j)
 | [], i, j, _, h => by cases h
 | (k, m) :: r, i, j, h0, h => by
  unfold okL at h0
  simp only [Bool.and_eq_true] at h0
  obtain ⟨a1, a2, a3, a4, a5⟩ := h0
  unfold fwd at h
  cases hb : Nat.beq k i with
  | true =>
   rw [hb] at h
   cases h
   obtain rfl := Nat.eq_of_beq_eq_true hb
   refine ⟨?_, Nat.le_of_ble_eq_true a1, fun hlt => ?_⟩
   ·unfold bck
    rw [beq_self]
    rfl
   ·rw [show Nat.blt m nb = true from Nat.ble_eq_true_of_le hlt] at a2
    exact Nat.eq_of_beq_eq_true a2
  | false =>
   rw [hb] at h
   obtain ⟨h1, h2⟩ := fwd_okL a5 h
   refine ⟨?_, h2⟩
   unfold bck
   cases hm : Nat.beq m j with
   | true =>
    obtain rfl := Nat.eq_of_beq_eq_true hm
    rw [isNone_iff.1 a4] at h1
    cases h1
   | false => exact h1
def inv3 (nb : Nat) (L : Ren2) (j : Nat) : Nat := bif Nat.blt j nb then j else match bck L j with
 | some k => k
 | none => 0
def nm3 (N : Nm) (nb : Nat) (L : Ren2) : Nm := ⟨fun j => N.b (inv3 nb L j), fun j => N.q (inv3 nb L j)⟩
theorem inv3_fwd {nb nx1 : Nat} {L : Ren2} (h0 : okL nb nx1 L = true) {i j : Nat} (h : fwd L i = some j) : inv3 nb L j = i := by
 obtain ⟨h1, _, h3⟩ := fwd_okL h0 h
 unfold inv3
 cases hb : Nat.blt j nb with
 | true => exact (h3 (Nat.le_of_ble_eq_true hb)).symm
 | false => rw [h1]; rfl
theorem inv3_small {nb : Nat} {L : Ren2} {j : Nat} (h : j < nb) : inv3 nb L j = j := by
 unfold inv3
 rw [show Nat.blt j nb = true from Nat.ble_eq_true_of_le h]
 rfl
theorem pk3 {N : Nm} {nb n nx1 : Nat} {L : Ren2} (h0 : okL nb nx1 L = true) : Pk (fwd L) N n (nm3 N nb L) nx1 := fun i j _ hj => by
 have h1 := inv3_fwd h0 hj
 exact ⟨(fwd_okL h0 hj).2.1, by show N.b (inv3 nb L j) = _; rw [h1], by show N.q (inv3 nb L j) = _; rw [h1]⟩
def getD (u : Nat) (t : Slots) : A := match look u t with
 | some x => x
 | none => .dead
def pickT (L : Ren2) (t : Slots) : List Nat → Slots
 | [] => []
 | u :: r => (u, (getD u t).pk (fwd L)) :: pickT L t r
def pickO (L : Ren2) (o : Objs) : List Nat → Objs
 | [] => []
 | i :: r => match fwd L i with
  | some j => (j, match lookO i o with
   | some ob => some (ob.pk (fwd L))
   | none => none) :: pickO L o r
  | none => pickO L o r
def pickS (nx1 : Nat) (L : Ren2) (us os : List Nat) (s : St) : St := ⟨s.n, nx1, pickT L s.t us, pickO L s.o os⟩
section
variable {Z : Base} {F : Nat → Prop} {N N' : Nm} {nx nx' : Nat} {s : St} {a : Act} {R : World} {tm : Nat → Value} {ρ : Nat → Option Nat}
theorem HS.pk (st : Pk ρ N nx N' nx') : ∀ {x : A} {y : Value}, HS F N nx R tm x y → HS F N' nx' R tm (x.pk ρ) y
 | .opt u b x, y, h => by
  unfold A.pk
  simp only [HS] at h ⊢
  exact ⟨fun hb => HS.pk st (h.1 hb), h.2⟩
 | .v _, _, h => (HS_plain (by unfold A.pk; rfl)).2 (((HS_plain rfl).1 h).pk st)
 | .sl _ _, _, h => (HS_plain (by unfold A.pk; rfl)).2 (((HS_plain rfl).1 h).pk st)
 | .ref _, _, h => (HS_plain (by unfold A.pk; rfl)).2 (((HS_plain rfl).1 h).pk st)
 | .nl, _, h => (HS_plain (by unfold A.pk; rfl)).2 (((HS_plain rfl).1 h).pk st)
 | .it _ _, _, h => (HS_plain (by unfold A.pk; rfl)).2 (((HS_plain rfl).1 h).pk st)
 | .fn _ _ _, _, h => (HS_plain (by unfold A.pk; rfl)).2 (((HS_plain rfl).1 h).pk st)
 | .agg _, _, h => (HS_plain (by unfold A.pk; rfl)).2 (((HS_plain rfl).1 h).pk st)
 | .tup _, _, h => (HS_plain (by unfold A.pk; rfl)).2 (((HS_plain rfl).1 h).pk st)
 | .dead, _, h => (HS_plain (by unfold A.pk; rfl)).2 (((HS_plain rfl).1 h).pk st)
 | .own _ _, _, h => (HS_plain (((HS_plain rfl).1 h).pk st).isPlain).2 (((HS_plain rfl).1 h).pk st)
 | .ownx _ _ _ _, _, h => (HS_plain (((HS_plain rfl).1 h).pk st).isPlain).2 (((HS_plain rfl).1 h).pk st)
 | .sq _, _, h => (HS_plain (((HS_plain rfl).1 h).pk st).isPlain).2 (((HS_plain rfl).1 h).pk st)
 | .dq _, _, h => (HS_plain (((HS_plain rfl).1 h).pk st).isPlain).2 (((HS_plain rfl).1 h).pk st)
 | .iv _ _, _, h => (HS_plain (((HS_plain rfl).1 h).pk st).isPlain).2 (((HS_plain rfl).1 h).pk st)
 | .de _ _ _ _, _, h => (HS_plain (((HS_plain rfl).1 h).pk st).isPlain).2 (((HS_plain rfl).1 h).pk st)
 | .ie _ _ _ _ _, _, h => (HS_plain (((HS_plain rfl).1 h).pk st).isPlain).2 (((HS_plain rfl).1 h).pk st)
 | .vw _ _ _ _ _, _, h => (HS_plain (((HS_plain rfl).1 h).pk st).isPlain).2 (((HS_plain rfl).1 h).pk st)
 | .el _ _ _ _, _, h => (HS_plain (((HS_plain rfl).1 h).pk st).isPlain).2 (((HS_plain rfl).1 h).pk st)
 | .mp _, _, h => (HS_plain (((HS_plain rfl).1 h).pk st).isPlain).2 (((HS_plain rfl).1 h).pk st)
 | .av _ _ _, _, h => (HS_plain (by unfold A.pk; rfl)).2 (((HS_plain rfl).1 h).pk st)
 | .rv _, _, h => (HS_plain (by unfold A.pk; rfl)).2 (((HS_plain rfl).1 h).pk st)
 | .vr _ _ _ _, _, h => (HS_plain (((HS_plain rfl).1 h).pk st).isPlain).2 (((HS_plain rfl).1 h).pk st)
theorem look_pickT {L : Ren2} {t : Slots} {u : Nat} {x : A} : ∀ {us : List Nat}, look u (pickT L t us) = some x → x = (getD u t).pk (fwd L)
 | [], h => by cases h
 | v :: r, h => by
  have h' : (bif Nat.beq v u then some ((getD v t).pk (fwd L)) else look u (pickT L t r)) = some x := h
  cases hb : Nat.beq v u with
  | true => rw [hb] at h'; obtain rfl := Nat.eq_of_beq_eq_true hb; cases h'; rfl
  | false => rw [hb] at h'; exact look_pickT h'
theorem lookO_pickO {L : Ren2} {o : Objs} {j : Nat} {ob' : Ob} : ∀ {os : List Nat}, lookO j (pickO L o os) = some ob' → ∃ i ob, i ∈ os ∧ fwd L i = some j ∧ lookO i o = some ob ∧ ob' = ob.pk (fwd L)
 | [], h => by cases h
 | i :: r, h => by
  unfold pickO at h
  cases hf : fwd L i with
  | none =>
   rw [hf] at h
   obtain ⟨i', ob, h1, h2⟩ := lookO_pickO h
   exact ⟨i', ob, List.mem_cons_of_mem _ h1, h2⟩
  | some m =>
   rw [hf] at h
   have h' : (bif Nat.beq m j then (match lookO i o with | some ob => some (ob.pk (fwd L)) | none => none) else lookO j (pickO L o r)) = some ob' := h
   cases hb : Nat.beq m j with
   | true =>
    rw [hb] at h'
    obtain rfl := Nat.eq_of_beq_eq_true hb
    simp only [cond_true] at h'
    split at h' <;> first | (cases h'; done) | skip
    rename_i ob hob
    cases h'
    exact ⟨i, ob, List.mem_cons_self .., hf, hob, rfl⟩
   | false =>
    rw [hb] at h'
    obtain ⟨i', ob, h1, h2⟩ := lookO_pickO h'
    exact ⟨i', ob, List.mem_cons_of_mem _ h1, h2⟩
theorem getD_ok (h : Rel Z F N s a R) (u : Nat) : HS F N s.nx R (tmOf a) (getD u s.t) (tmOf a u) := by
 unfold getD
 split
 ·rename_i x hx; exact h.slots u x hx
 ·exact (HS_plain rfl).2 (.dead _)
theorem Rel.pick (h : Rel Z F N s a R) {nb nx1 : Nat} {L : Ren2} (h0 : okL nb nx1 L = true) (hz : Z.nx ≤ nb) (hz1 : Z.nx ≤ nx1) (us os : List Nat) : Rel Z F (nm3 N nb L) (pickS nx1 L us os s) a R := by
 obtain ⟨q1, q2⟩ := h.hp.pk (o' := pickO L s.o os) (pk3 (N := N) (n := s.nx) h0) fun j ob' hj => by
  obtain ⟨i, ob, _, h1, h2⟩ := lookO_pickO hj
  exact ⟨i, ob, h1, h2⟩
 refine ⟨h.defers, h.size, fun u x hu => ?_, q1, ⟨hz1, fun i hi => ?_, fun i hi => ?_, h.st.f, h.st.fnew, fun g hg => h.st.foot g (q2 g hg), h.st.os, h.st.tape, h.st.output, h.st.size, h.st.keep⟩, h.tm⟩
 ·rw [look_pickT hu]
  exact (getD_ok h u).pk (pk3 h0)
 ·show N.b (inv3 nb L i) = _
  rw [inv3_small (by omega)]
  exact h.st.b i hi
 ·show N.q (inv3 nb L i) = _
  rw [inv3_small (by omega)]
  exact h.st.q i hi
end
def partT (t : Slots) : List Nat → Slots
 | [] => []
 | u :: r => (u, getD u t) :: partT t r
def partO (o : Objs) : List Nat → Objs
 | [] => []
 | i :: r => (i, lookO i o) :: partO o r
def partS (us os : List Nat) (s : St) : St := ⟨s.n, s.nx, partT s.t us, partO s.o os⟩
def partOuts (us os : List Nat) : Outs → Outs
 | [] => []
 | (t, c, s) :: r => (t, c, partS us os s) :: partOuts us os r
structure Shape where
 nb : Nat
 nx1 : Nat
 us : List Nat
 dirs : List Dir
 ren : Ren2
 os : List Nat
 usO : List Nat
 osO : List Nat
def roundE (E : Env) (u : Nat) (b : Code) (S : Shape) (s : St) : Option (List Prop × Outs × Cnd × St) :=
 let r := evH E u 0 b false s
 match r.nrm with
 | some s1 => match adj E S.dirs s1 with
  | some (s2, qs) => some (r.ps ++ gimps (cndP (noneOf r.outs)) qs, partOuts S.usO S.osO r.outs, noneOf r.outs, pickS S.nx1 S.ren S.us S.os s2)
  | none => none
 | none => none
section
variable {X : Type} (next : X → X) (goes : X → Cnd)
def iterX : Nat → X → X
 | 0, x => x
 | n + 1, x => bif cval (goes x) then iterX n (next x) else x
def needX (ps : X → List Prop) : Nat → X → Prop
 | 0, x => (∀ p ∈ ps x, p) ∧ cval (goes x) = false
 | n + 1, x => (∀ p ∈ ps x, p) ∧ (cval (goes x) = true → needX ps n (next x))
end
section
variable {Z : Base} {F : Nat → Prop} {N : Nm} {s : St} {a : Act} {R : World}
theorem look_partT {t : Slots} {u : Nat} {x : A} : ∀ {us : List Nat}, look u (partT t us) = some x → x = getD u t
 | [], h => by cases h
 | v :: r, h => by
  have h' : (bif Nat.beq v u then some (getD v t) else look u (partT t r)) = some x := h
  cases hb : Nat.beq v u with
  | true => rw [hb] at h'; obtain rfl := Nat.eq_of_beq_eq_true hb; cases h'; rfl
  | false => rw [hb] at h'; exact look_partT h'
theorem lookO_partO {o : Objs} {i : Nat} {ob : Ob} : ∀ {os : List Nat}, lookO i (partO o os) = some ob → lookO i o = some ob ∧ i ∈ os
 | [], h => by cases h
 | k :: r, h => by
  have h' : (bif Nat.beq k i then lookO k o else lookO i (partO o r)) = some ob := h
  cases hb : Nat.beq k i with
  | true => rw [hb] at h'; obtain rfl := Nat.eq_of_beq_eq_true hb; exact ⟨h', List.mem_cons_self ..⟩
  | false => rw [hb] at h'; exact ⟨(lookO_partO h').1, List.mem_cons_of_mem _ (lookO_partO h').2⟩
theorem Rel.part (h : Rel Z F N s a R) (us os : List Nat) : Rel Z F N (partS us os s) a R := by
 have ho : ∀ i ob, lookO i (partO s.o os) = some ob → lookO i s.o = some ob := fun i ob hi => (lookO_partO hi).1
 refine ⟨h.defers, h.size, fun u x hu => ?_, h.hp.weak ho, h.st.trans (Step.weak ho), h.tm⟩
 rw [look_partT hu]
 exact getD_ok h u
theorem getO_part {us os : List Nat} {t : Tag} : ∀ {o : Outs}, getO t (partOuts us os o) = match getO t o with | some (c, s) => some (c, partS us os s) | none => none
 | [] => rfl
 | (k, c, s) :: r => by
  show (bif tagB k t then some (c, partS us os s) else getO t (partOuts us os r)) = match (bif tagB k t then some (c, s) else getO t r) with | some (c, s) => some (c, partS us os s) | none => none
  cases tagB k t with
  | true => rfl
  | false => exact getO_part
theorem loop_ok {E : Env} (ok : CodeOk E) {u : Nat} {b : Code} {S : Shape} {X : Type} {T : X → St} {next : X → X} {goes : X → Cnd} {psA ps : X → List Prop} {outs : X → Outs} (hS : okL S.nb S.nx1 S.ren = true) (hnb : S.nb ≤ S.nx1)
  (hr : ∀ x, roundE E u b S (T x) = some (psA x, outs x, goes x, T (next x))) (hA : ∀ x, (∀ p ∈ ps x, p) → ∀ p ∈ psA x, p) {Z : Base} (hz : Z.nx ≤ S.nb) (hW : ∀ u, inW u (wrC b) = true → Z.W u) {Q : Exit → Act → World → Prop} : ∀ (n : Nat) (x : X) (a : Act) (R : World), At Z a R (T x) → needX next goes ps n x →
   (∀ e y a' R', Oc ⟨[], outs (iterX next goes n x), none⟩ e y → At Z a' R' y → Q e a' R') → Code.rounds E.P b Q (n + 1) a R := by
 intro n
 induction n with
 | zero =>
  intro x a R h hn hk
  obtain ⟨h1, h2⟩ := hn
  rw [rounds_succ]
  have hx := hr x
  unfold roundE at hx
  simp only at hx
  split at hx <;> first | (cases hx; done) | skip
  rename_i s1 hs1
  split at hx <;> first | (cases hx; done) | skip
  rename_i s2 qs hs2
  injection hx with hx
  injection hx with e1 hx
  injection hx with e2 hx
  injection hx with e3 e4
  replace h1 := hA x h1
  rw [← e1] at h1
  refine code_ok ok 0 b false Z (T x) a R _ h hW (all_append h1).1 fun e y a' R' ho hy => ?_
  have hwf := wf_code ok (u := u) 0 b false (T x)
  rcases ho with ⟨t, cc, rfl, g1, g2, g3⟩ | ⟨rfl, g1, g2⟩
  ·obtain ⟨F, N, hy⟩ := hy
   have : Oc ⟨[], outs x, none⟩ (Tag.ex t) (partS S.usO S.osO y) := by
    rw [← e2]
    refine .inl ⟨t, cc, rfl, by show getO t (partOuts _ _ _) = _; rw [getO_part, g1], g2, fun t' c' s' hne hg => ?_⟩
    have hg' : getO t' (partOuts S.usO S.osO (evH E u 0 b false (T x)).outs) = some (c', s') := hg
    rw [getO_part] at hg'
    cases h5 : getO t' (evH E u 0 b false (T x)).outs with
    | none => rw [h5] at hg'; cases hg'
    | some z => obtain ⟨c1, z⟩ := z; rw [h5] at hg'; cases hg'; exact g3 t' _ z hne h5
   have := hk _ _ a' R' this ⟨F, N, hy.part _ _⟩
   cases t <;> exact this
  ·exfalso
   have := allF_noneOf hwf.once g2
   rw [e3, h2] at this
   cases this
 | succ n ih =>
  intro x a R h hn hk
  obtain ⟨h1, h2⟩ := hn
  rw [rounds_succ]
  have hx := hr x
  unfold roundE at hx
  simp only at hx
  split at hx <;> first | (cases hx; done) | skip
  rename_i s1 hs1
  split at hx <;> first | (cases hx; done) | skip
  rename_i s2 qs hs2
  injection hx with hx
  injection hx with e1 hx
  injection hx with e2 hx
  injection hx with e3 e4
  replace h1 := hA x h1
  rw [← e1] at h1
  refine code_ok ok 0 b false Z (T x) a R _ h hW (all_append h1).1 fun e y a' R' ho hy => ?_
  have hwf := wf_code ok (u := u) 0 b false (T x)
  rcases ho with ⟨t, cc, rfl, g1, g2, g3⟩ | ⟨rfl, g1, g2⟩
  ·obtain ⟨F, N, hy⟩ := hy
   have hc : cval (goes x) = false := by rw [← e3]; exact noneOf_no g1 g2
   have hi : iterX next goes (n + 1) x = x := by unfold iterX; rw [hc]; rfl
   rw [hi] at hk
   have : Oc ⟨[], outs x, none⟩ (Tag.ex t) (partS S.usO S.osO y) := by
    rw [← e2]
    refine .inl ⟨t, cc, rfl, by show getO t (partOuts _ _ _) = _; rw [getO_part, g1], g2, fun t' c' s' hne hg => ?_⟩
    have hg' : getO t' (partOuts S.usO S.osO (evH E u 0 b false (T x)).outs) = some (c', s') := hg
    rw [getO_part] at hg'
    cases h5 : getO t' (evH E u 0 b false (T x)).outs with
    | none => rw [h5] at hg'; cases hg'
    | some z => obtain ⟨c1, z⟩ := z; rw [h5] at hg'; cases hg'; exact g3 t' _ z hne h5
   have := hk _ _ a' R' this ⟨F, N, hy.part _ _⟩
   cases t <;> exact this
  ·have hc : cval (goes x) = true := by rw [← e3]; exact allF_noneOf hwf.once g2
   have hi : iterX next goes (n + 1) x = iterX next goes n (next x) := by
    show (bif cval (goes x) then _ else _) = _
    rw [hc]; rfl
   rw [hi] at hk
   rw [hs1] at g1
   obtain rfl := Option.some.inj g1
   have hq : ∀ p ∈ qs, p := gimps_ok (all_append h1).2 (cndP_ok (by rw [e3]; exact hc))
   obtain ⟨F, N, h3⟩ := adj_ok hy hs2 hq
   have h4 := h3.pick hS hz (Nat.le_trans hz hnb) S.us S.os
   rw [e4] at h4
   exact ih (next x) a' R' ⟨F, _, h4⟩ (h2 hc) hk
end
def findLoop (l : Nat) : Code → Option Code
 | .seq a b => match findLoop l a with
  | some c => some c
  | none => findLoop l b
 | .cond _ a b => match findLoop l a with
  | some c => some c
  | none => findLoop l b
 | .block id b => match Nat.beq id l, b with
  | true, .loop c => some c
  | _, _ => findLoop l b
 | .loop b => findLoop l b
 | .scope b => findLoop l b
 | .rangeFunc _ _ _ b => findLoop l b
 | _ => none
def loopAt (P : Program) (f : FuncId) (l : Nat) : Code := match P.funcs[f]? with
 | some fn => match fn.body with
  | some c => match findLoop l c with
   | some b => b
   | none => .skip
  | none => .skip
 | none => .skip
def addLp (l0 : Nat) (g : St → Option (Code × List Prop × Outs)) (L : LTab) : LTab := fun l s => bif Nat.beq l l0 then g s else L l s
def deadW : List Nat → Slots
 | [] => []
 | u :: r => (u, .dead) :: deadW r
def maskO : List Nat → Objs
 | [] => []
 | i :: r => (i, none) :: maskO r
def combS (W os : List Nat) (sA st : St) : St := ⟨sA.n, st.nx, st.t ++ (deadW W ++ killW W sA.t), st.o ++ (maskO os ++ sA.o)⟩
def combOuts (W os : List Nat) (sA : St) : Outs → Outs
 | [] => []
 | (t, c, s) :: r => (t, c, combS W os sA s) :: combOuts W os sA r
structure Entry where
 dirs : List Dir
 ren : Ren2
 us : List Nat
 os : List Nat
def rowL (E : Env) (b : Code) (S : Shape) (En : Entry) {X : Type} (unT : St → Option X) (fuel : X → Nat) (next : X → X) (goes : X → Cnd) (ps : X → List Prop) (outs : X → Outs) (s : St) : Option (Code × List Prop × Outs) :=
 match adj E En.dirs s with
 | some (sA, qs) => bif Nat.beq sA.nx S.nb then (bif okL S.nb S.nx1 En.ren then (match unT (pickS S.nx1 En.ren En.us En.os sA) with
  | some x => some (b, qs ++ [needX next goes ps (fuel x) x], combOuts (wrC b) En.os sA (outs (iterX next goes (fuel x) x)))
  | none => none) else none) else none
 | none => none
section
theorem inW_mem {u : Nat} : ∀ {W : List Nat}, inW u W = true → look u (deadW W) = some .dead
 | [], h => by cases h
 | k :: r, h => by
  show (bif Nat.beq k u then some A.dead else look u (deadW r)) = _
  cases hb : Nat.beq k u with
  | true => rfl
  | false =>
   have h' : (bif Nat.beq k u then true else inW u r) = true := h
   rw [hb] at h'
   exact inW_mem h'
theorem look_deadW {u : Nat} {x : A} : ∀ {W : List Nat}, look u (deadW W) = some x → x = .dead
 | [], h => by cases h
 | k :: r, h => by
  have h' : (bif Nat.beq k u then some A.dead else look u (deadW r)) = some x := h
  cases hb : Nat.beq k u with
  | true => rw [hb] at h'; cases h'; rfl
  | false => rw [hb] at h'; exact look_deadW h'
theorem lookO_maskO {i : Nat} : ∀ {os : List Nat}, lookO i (maskO os) = none
 | [] => rfl
 | k :: r => by
  show (bif Nat.beq k i then none else lookO i (maskO r)) = none
  cases Nat.beq k i with
  | true => rfl
  | false => exact lookO_maskO
theorem keysO_maskO {i : Nat} : ∀ {os : List Nat}, i ∈ os → i ∈ keysO (maskO os)
 | [], h => by cases h
 | k :: r, h => by
  rcases List.mem_cons.1 h with rfl | h
  ·exact List.mem_cons_self ..
  ·exact List.mem_cons_of_mem _ (keysO_maskO h)
theorem getO_comb {W os : List Nat} {sA : St} {t : Tag} : ∀ {o : Outs}, getO t (combOuts W os sA o) = match getO t o with | some (c, s) => some (c, combS W os sA s) | none => none
 | [] => rfl
 | (k, c, s) :: r => by
  show (bif tagB k t then some (c, combS W os sA s) else getO t (combOuts W os sA r)) = match (bif tagB k t then some (c, s) else getO t r) with | some (c, s) => some (c, combS W os sA s) | none => none
  cases tagB k t with
  | true => rfl
  | false => exact getO_comb
theorem once_comb {W os : List Nat} {sA : St} : ∀ {o : Outs}, Once o → Once (combOuts W os sA o)
 | [], _ => trivial
 | (k, c, s) :: r, ⟨h1, h2⟩ => ⟨by rw [getO_comb, h1], once_comb h2⟩
theorem comb_ok {Z : Base} {F F' : Nat → Prop} {N N' : Nm} {sA st : St} {a a' : Act} {R R' : World} {nb nx1 : Nat} {L : Ren2} {os W : List Nat} (h : Rel Z F N sA a R) (hn : st.n = sA.n) (hW : ∀ u, inW u W = true → Z.W u) (hnb : sA.nx = nb) (hL : okL nb nx1 L = true)
  (h' : Rel ⟨F, nm3 N nb L, nb, pickO L sA.o os, R, tmOf a, fun u => inW u W = true⟩ F' N' st a' R') : Rel Z F' N' (combS W os sA st) a' R' := by
 subst hnb
 let o1 := partO sA.o os
 have ho1 : ∀ i ob, lookO i o1 = some ob → lookO i sA.o = some ob := fun i ob hi => (lookO_partO hi).1
 have hfoot : ∀ g, Foot (nm3 N sA.nx L) (pickO L sA.o os) g → Foot N o1 g := fun g ⟨j, ob', hj, hg⟩ => by
  obtain ⟨i, ob, hi, h1, h2, rfl⟩ := lookO_pickO hj
  have hlt := (h.hp.ob i ob h2).1
  refine ⟨i, ob, ?_, (foot_pk (pk3 (N := N) (n := sA.nx) hL) hlt h1).1 hg⟩
  have : ∀ {l : List Nat}, i ∈ l → lookO i (partO sA.o l) = lookO i sA.o := fun {l} => by
   induction l with
   | nil => intro hm; cases hm
   | cons k r ih =>
    intro hm
    show (bif Nat.beq k i then lookO k sA.o else lookO i (partO sA.o r)) = _
    cases hb : Nat.beq k i with
    | true => rw [Nat.eq_of_beq_eq_true hb]; rfl
    | false =>
     rcases List.mem_cons.1 hm with rfl | hm
     ·simp at hb
     ·exact ih hm
  rw [this hi]
  exact h2
 have st1 : Step F N sA.nx o1 R F' N' st.nx st.o R' := ⟨h'.st.le, fun i hi => by
   have := h'.st.b i hi
   rw [this]
   show N.b (inv3 sA.nx L i) = _
   rw [inv3_small hi], fun i hi => by
   have := h'.st.q i hi
   rw [this]
   show N.q (inv3 sA.nx L i) = _
   rw [inv3_small hi], h'.st.f, fun g hg => by
   rcases h'.st.fnew g hg with h1 | h1 | h1
   ·exact .inl h1
   ·exact .inr (.inl (hfoot g h1))
   ·exact .inr (.inr h1), fun g hg => by
   rcases h'.st.foot g hg with h1 | h1
   ·exact .inl (hfoot g h1)
   ·exact .inr h1, h'.st.os, h'.st.tape, h'.st.output, h'.st.size, fun g hg hn => h'.st.keep g hg fun hf => hn (hfoot g hf)⟩
 obtain ⟨q1, q2⟩ := h.hp.frame (o' := st.o ++ (maskO os ++ sA.o)) ho1 st1 h'.hp fun i ob hi => by
  rcases lookO_split hi with ⟨_, h1⟩ | ⟨_, h1⟩
  ·exact .inl h1
  ·rcases lookO_split h1 with ⟨_, h2⟩ | ⟨h2, h3⟩
   ·rw [lookO_maskO] at h2; cases h2
   ·refine .inr ⟨h3, ?_⟩
    cases h4 : lookO i o1 with
    | none => rfl
    | some ob2 => exact absurd (keysO_maskO (lookO_partO h4).2) h2
 have htm : ∀ u, inW u W = false → tmOf a' u = tmOf a u := fun u hu => h'.tm u fun hh => by
  have hh' : inW u W = true := hh
  rw [hu] at hh'; cases hh'
 refine ⟨h'.defers, h'.size.trans hn, fun u x hu => ?_, q1, h.st.trans q2, fun u hu => ?_⟩
 ·have hu' : look u (st.t ++ (deadW W ++ killW W sA.t)) = some x := hu
  rw [look_append] at hu'
  cases h1 : look u st.t with
  | some y => rw [h1] at hu'; cases hu'; exact h'.slots u x h1
  | none =>
   rw [h1] at hu'
   have hu2 : look u (deadW W ++ killW W sA.t) = some x := hu'
   rw [look_append] at hu2
   cases h2 : look u (deadW W) with
   | some y => rw [h2] at hu2; cases hu2; rw [look_deadW h2]; exact (HS_plain rfl).2 (.dead _)
   | none =>
    rw [h2] at hu2
    have hu3 : look u (killW W sA.t) = some x := hu2
    have hw : inW u W = false := by
     cases hw : inW u W with
     | false => rfl
     | true => rw [inW_mem hw] at h2; cases h2
    rcases look_killW hu3 with rfl | ⟨k1, k2⟩
    ·exact (HS_plain rfl).2 (.dead _)
    ·rw [htm u hw]
     exact HS.congrW htm k2 ((h.slots u x k1).step (q2.ext h.hp))
 ·rw [h'.tm u fun hw => hu (hW u hw)]
  exact h.tm u hu
theorem rowL_ok {E : Env} (ok : CodeOk E) {u : Nat} {b : Code} {S : Shape} {En : Entry} {X : Type} {T : X → St} {unT : St → Option X} {fuel : X → Nat} {next : X → X} {goes : X → Cnd} {psA ps : X → List Prop} {outs : X → Outs} (hS : okL S.nb S.nx1 S.ren = true) (hnb : S.nb ≤ S.nx1)
  (hr : ∀ x, roundE E u b S (T x) = some (psA x, outs x, goes x, T (next x))) (hA : ∀ x, (∀ p ∈ ps x, p) → ∀ p ∈ psA x, p) (hu : ∀ s x, unT s = some x → s = T x)
  (hw : ∀ x, Once (outs x) ∧ ∀ t c y, getO t (outs x) = some (c, y) → y.n = (T x).n) (hTn : ∀ x y, (T x).n = (T y).n) {s : St} {b0 : Code} {qs : List Prop} {os : Outs} (he : rowL E b S En unT fuel next goes ps outs s = some (b0, qs, os)) :
  Wf s ⟨qs, os, none⟩ ∧ LoopOk E b0 s qs os := by
 unfold rowL at he
 split at he <;> first | (cases he; done) | skip
 rename_i sA ps1 hAd
 cases hq1 : Nat.beq sA.nx S.nb with
 | false => rw [hq1] at he; cases he
 | true =>
  cases hq2 : okL S.nb S.nx1 En.ren with
  | false => rw [hq1, hq2] at he; cases he
  | true =>
   rw [hq1, hq2] at he
   simp only [cond_true] at he
   split at he <;> first | (cases he; done) | skip
   rename_i x hx
   cases he
   have hnx := Nat.eq_of_beq_eq_true hq1
   have hT := hu _ _ hx
   have hsub := adj_sub hAd
   have hnT : ∀ y, (T y).n = sA.n := fun y => by rw [hTn y x, ← hT]; rfl
   refine ⟨⟨fun t c y hy => ?_, fun y hy => (by cases hy), once_comb (hw _).1⟩, ?_⟩
   ·have hy' : getO t (combOuts (wrC b) En.os sA (outs (iterX next goes (fuel x) x))) = some (c, y) := hy
    rw [getO_comb] at hy'
    split at hy' <;> first | (cases hy'; done) | skip
    cases hy'
    obtain ⟨d, hd⟩ := hsub.seq
    exact ⟨hsub.n, by show ∃ d, _ ++ (maskO En.os ++ sA.o) = d ++ s.o; rw [hd]; exact ⟨_, by rw [← List.append_assoc, ← List.append_assoc]⟩⟩
   ·intro Z F N a R Q h hW hp hk
    have hp1 : ∀ p ∈ ps1, p := fun p hm => hp p (List.mem_append.2 (.inl hm))
    have hneed : needX next goes ps (fuel x) x := hp _ (List.mem_append.2 (.inr (List.mem_singleton.2 rfl)))
    obtain ⟨F1, N1, h1⟩ := adj_ok ⟨F, N, h⟩ hAd hp1
    have hpick := (h1.start (wrC b)).pick (L := En.ren) hq2 (by show sA.nx ≤ S.nb; omega) (by show sA.nx ≤ S.nx1; omega) En.us En.os
    have hrel : Rel ⟨F1, nm3 N1 S.nb En.ren, S.nb, pickO En.ren sA.o En.os, R, tmOf a, fun u => inW u (wrC b) = true⟩ F1 (nm3 N1 S.nb En.ren) (T x) a R := by
     rw [← hT]
     exact ⟨hpick.defers, hpick.size, hpick.slots, hpick.hp, ⟨hnb, fun _ _ => rfl, fun _ _ => rfl, fun _ h => h, fun _ h => .inl h, fun _ h => .inl h, rfl, rfl, rfl, Nat.le_refl _, fun _ _ _ => rfl⟩, fun _ _ => rfl⟩
    refine wp_loop_rounds (fuel x + 1) (loop_ok ok (u := u) (b := b) hS hnb hr hA (Nat.le_refl _) (fun u hu => hu) (fuel x) x a R ⟨F1, _, hrel⟩ hneed fun e y a' R' ho ⟨F2, N2, hy⟩ => ?_)
    rcases ho with ⟨t, c, rfl, g1, g2, g3⟩ | ⟨rfl, g1, g2⟩
    ·have g1' : getO t (outs (iterX next goes (fuel x) x)) = some (c, y) := g1
     refine hk _ (combS (wrC b) En.os sA y) F2 N2 a' R' (.inl ⟨t, c, rfl, by show getO t (combOuts _ _ _ _) = _; rw [getO_comb, g1'], g2, fun t' c' s' hne hg => ?_⟩) (comb_ok h1 (by rw [(hw _).2 t c y g1', hnT]) hW hnx hq2 hy)
     have hg' : getO t' (combOuts (wrC b) En.os sA (outs (iterX next goes (fuel x) x))) = some (c', s') := hg
     rw [getO_comb] at hg'
     split at hg' <;> first | (cases hg'; done) | skip
     rename_i c1 z hz
     cases hg'
     exact g3 t' _ z hne hz
    ·cases g1
end
end Go.Proofs.YtkknpeeccejppaaDoor
namespace Go.Proofs.YtkknpeeccejppaaDoor
open Go.RowKit
def zc : TC → List Value
 | .u8 => [.int .u8 0]
 | .i64 => [.int .i64 0]
 | .u32 => [.int .u32 0]
 | .bool => [.bool false]
 | .str => [.string ByteArray.empty]
 | .bytes => [.slice none 0 0]
 | .ints => [.slice none 0 0]
 | .cells => [.slice none 0 0]
 | .rsl => [.slice none 0 0]
 | .rows => [.slice none 0 0]
 | .digest => List.replicate 32 (.int .u8 0)
 | c => (enc c (dflt c)).map fun x => match x with
  | .v y => y
  | _ => .slice none 0 0
theorem zc_ok (c : TC) (F : Nat → Prop) (N : Nm) (nx : Nat) (R : World) : HL F N nx R (enc c (dflt c)) (zc c) := by
 cases c <;> (repeat' (first | exact HL.nil | exact Hv.v _ | exact Hv.sl_nil rfl | apply HL.cons))
def tcRow (P : Program) (t : TypeId) : Option (Nat × Option (List Value)) := (P.info? t).map fun i => (i.size, i.zero.map fun z => z.cells.toList)
theorem tcRow_ok {P : Program} {t : TypeId} {c : TC} (h : tcRow P t = some (size c, some (zc c))) (h0 : 0 < size c) : ∃ i, P.info? t = some i ∧ i.size = size c ∧ 0 < size c ∧ ∃ z, i.zero = some z ∧ ∀ (F : Nat → Prop) (N : Nm) (nx : Nat) (R : World), HL F N nx R (enc c (dflt c)) z.cells.toList := by
 unfold tcRow at h
 cases hi : P.info? t with
 | none => rw [hi] at h; cases h
 | some i =>
  rw [hi] at h
  have h' : some (i.size, i.zero.map fun z => z.cells.toList) = some (size c, some (zc c)) := h
  injection h' with h'
  injection h' with h1 h2
  cases hz : i.zero with
  | none => rw [hz] at h2; cases h2
  | some z =>
   rw [hz] at h2
   injection h2 with h2
   have h3 : z.cells.toList = zc c := h2
   exact ⟨i, rfl, h1, h0, z, hz, fun F N nx R => by rw [h3]; exact zc_ok c F N nx R⟩
theorem size_pos (c : TC) : 0 < size c := by cases c <;> decide
def tcTab (t : TypeId) : Option TC := bif Nat.beq t 2 then some .i64 else bif Nat.beq t 3 then some .i64 else bif Nat.beq t 4 then some .bool else bif Nat.beq t 5 then some .u8 else bif Nat.beq t 9 then some .str else bif Nat.beq t 24 then some .ints else bif Nat.beq t 28 then some .rows else bif Nat.beq t 31 then some .i64 else bif Nat.beq t 36 then some .cells else bif Nat.beq t 38 then some .row else bif Nat.beq t 43 then some .stamp else bif Nat.beq t 44 then some .vec else bif Nat.beq t 45 then some .vec else bif Nat.beq t 47 then some .cell else bif Nat.beq t 51 then some .digest else bif Nat.beq t 53 then some .bytes else bif Nat.beq t 59 then some .change else bif Nat.beq t 61 then some .write else bif Nat.beq t 66 then some .u32 else bif Nat.beq t 84 then some .group else none
theorem tc2_row : tcRow Tryd.prog 2 = some (size .i64, some (zc .i64)) := by kernel_rfl
theorem tc3_row : tcRow Tryd.prog 3 = some (size .i64, some (zc .i64)) := by kernel_rfl
theorem tc4_row : tcRow Tryd.prog 4 = some (size .bool, some (zc .bool)) := by kernel_rfl
theorem tc5_row : tcRow Tryd.prog 5 = some (size .u8, some (zc .u8)) := by kernel_rfl
theorem tc9_row : tcRow Tryd.prog 9 = some (size .str, some (zc .str)) := by kernel_rfl
theorem tc24_row : tcRow Tryd.prog 24 = some (size .ints, some (zc .ints)) := by kernel_rfl
theorem tc28_row : tcRow Tryd.prog 28 = some (size .rows, some (zc .rows)) := by kernel_rfl
theorem tc31_row : tcRow Tryd.prog 31 = some (size .i64, some (zc .i64)) := by kernel_rfl
theorem tc36_row : tcRow Tryd.prog 36 = some (size .cells, some (zc .cells)) := by kernel_rfl
theorem tc38_row : tcRow Tryd.prog 38 = some (size .row, some (zc .row)) := by kernel_rfl
theorem tc43_row : tcRow Tryd.prog 43 = some (size .stamp, some (zc .stamp)) := by kernel_rfl
theorem tc44_row : tcRow Tryd.prog 44 = some (size .vec, some (zc .vec)) := by kernel_rfl
theorem tc45_row : tcRow Tryd.prog 45 = some (size .vec, some (zc .vec)) := by kernel_rfl
theorem tc47_row : tcRow Tryd.prog 47 = some (size .cell, some (zc .cell)) := by kernel_rfl
theorem tc51_row : tcRow Tryd.prog 51 = some (size .digest, some (zc .digest)) := by kernel_rfl
theorem tc53_row : tcRow Tryd.prog 53 = some (size .bytes, some (zc .bytes)) := by kernel_rfl
theorem tc59_row : tcRow Tryd.prog 59 = some (size .change, some (zc .change)) := by kernel_rfl
theorem tc61_row : tcRow Tryd.prog 61 = some (size .write, some (zc .write)) := by kernel_rfl
theorem tc66_row : tcRow Tryd.prog 66 = some (size .u32, some (zc .u32)) := by kernel_rfl
theorem tc84_row : tcRow Tryd.prog 84 = some (size .group, some (zc .group)) := by kernel_rfl
theorem tcStep {P : Program} {t k : TypeId} {c c0 : TC} {r : Option TC} (h : (bif Nat.beq t k then some c0 else r) = some c) (hk : tcRow P k = some (size c0, some (zc c0))) : tcRow P t = some (size c, some (zc c)) ∨ r = some c := by
 cases hb : Nat.beq t k with
 | true => rw [hb] at h; cases h; rw [Nat.eq_of_beq_eq_true hb]; exact .inl hk
 | false => rw [hb] at h; exact .inr h
theorem tcTab_ok : TcOk Tryd.prog tcTab := fun t c h => by
 refine tcRow_ok ?_ (size_pos c)
 unfold tcTab at h
 rcases tcStep h tc2_row with h | h
 ·exact h
 rcases tcStep h tc3_row with h | h
 ·exact h
 rcases tcStep h tc4_row with h | h
 ·exact h
 rcases tcStep h tc5_row with h | h
 ·exact h
 rcases tcStep h tc9_row with h | h
 ·exact h
 rcases tcStep h tc24_row with h | h
 ·exact h
 rcases tcStep h tc28_row with h | h
 ·exact h
 rcases tcStep h tc31_row with h | h
 ·exact h
 rcases tcStep h tc36_row with h | h
 ·exact h
 rcases tcStep h tc38_row with h | h
 ·exact h
 rcases tcStep h tc43_row with h | h
 ·exact h
 rcases tcStep h tc44_row with h | h
 ·exact h
 rcases tcStep h tc45_row with h | h
 ·exact h
 rcases tcStep h tc47_row with h | h
 ·exact h
 rcases tcStep h tc51_row with h | h
 ·exact h
 rcases tcStep h tc53_row with h | h
 ·exact h
 rcases tcStep h tc59_row with h | h
 ·exact h
 rcases tcStep h tc61_row with h | h
 ·exact h
 rcases tcStep h tc66_row with h | h
 ·exact h
 rcases tcStep h tc84_row with h | h
 ·exact h
 cases h
end Go.Proofs.YtkknpeeccejppaaDoor
namespace Go.Proofs.YtkknpeeccejppaaDoor
open Go.RowKit
theorem eqi (d : Nat) (a b : Int) (w : World) : (Op.equalIn (d + 1) 3 (.int .i64 a) (.int .i64 b)).run Tryd.prog w = .ok (a == b) w := run_equalIn_int w d 3 .i64 .i64 a b Tryd.underlying3
theorem eqb (d : Nat) (a b : Bool) (w : World) : (Op.equalIn (d + 1) 4 (.bool a) (.bool b)).run Tryd.prog w = .ok (a == b) w := run_equalIn_bool' w d 4 a b Tryd.underlying4
theorem eqs (d : Nat) (a b : ByteArray) (w : World) : (Op.equalIn (d + 1) 9 (.string a) (.string b)).run Tryd.prog w = .ok (a.toList == b.toList) w := run_equalIn_string w d 9 a b Tryd.underlying9
@[go_sem] theorem eqVec (d : Nat) (a b x y : Int) (w : World) : (Op.equalIn (d + 2) 45 (.agg #[.int .i64 a, .int .i64 b]) (.agg #[.int .i64 x, .int .i64 y])).run Tryd.prog w = .ok (a == x && b == y) w := by
 have p0 : ∀ a b w, (part 3 #[.int .i64 a, .int .i64 b] 0).run Tryd.prog w = Result.ok (.int .i64 a) w := fun a b w => by kernel_rfl
 have p1 : ∀ a b w, (part 3 #[.int .i64 a, .int .i64 b] 1).run Tryd.prog w = Result.ok (.int .i64 b) w := fun a b w => by kernel_rfl
 unfold Op.equalIn
 cases h : a == x
 ·simp [Sem.run_bind, run_underlying Tryd.underlying45, List.range', p0, eqi, h]
 ·cases h' : b == y <;> simp [Sem.run_bind, run_underlying Tryd.underlying45, List.range', p0, p1, eqi, h, h']
@[go_sem] theorem eqInt2 (d : Nat) (a b x y : Int) (w : World) : (Op.equalIn (d + 2) 44 (.agg #[.int .i64 a, .int .i64 b]) (.agg #[.int .i64 x, .int .i64 y])).run Tryd.prog w = .ok (a == x && b == y) w := by
 have p0 : ∀ a b w, (part 3 #[.int .i64 a, .int .i64 b] 0).run Tryd.prog w = Result.ok (.int .i64 a) w := fun a b w => by kernel_rfl
 have p1 : ∀ a b w, (part 3 #[.int .i64 a, .int .i64 b] 1).run Tryd.prog w = Result.ok (.int .i64 b) w := fun a b w => by kernel_rfl
 unfold Op.equalIn
 cases h : a == x
 ·simp [Sem.run_bind, run_underlying Tryd.underlying44, List.range', p0, eqi, h]
 ·cases h' : b == y <;> simp [Sem.run_bind, run_underlying Tryd.underlying44, List.range', p0, p1, eqi, h, h']
@[go_sem] theorem eqStamp (d : Nat) (a b x y : Int) (w : World) : (Op.equalIn (d + 2) 43 (.agg #[.int .i64 a, .int .i64 b]) (.agg #[.int .i64 x, .int .i64 y])).run Tryd.prog w = .ok (a == x && b == y) w := by
 rw [run_equalIn_struct w (d + 1) 43 _ _ (by kernel_rfl) (by kernel_rfl)]
 have p0 : ∀ a b w, (part 3 #[.int .i64 a, .int .i64 b] 0).run Tryd.prog w = Result.ok (.int .i64 a) w := fun a b w => by kernel_rfl
 have p1 : ∀ a b w, (part 3 #[.int .i64 a, .int .i64 b] 1).run Tryd.prog w = Result.ok (.int .i64 b) w := fun a b w => by kernel_rfl
 cases h : a == x
 ·simp [Program.fieldsOf, Tryd.underlying43, Op.eqFields, Sem.run_bind, p0, eqi, h]
 ·cases h' : b == y <;> simp [Program.fieldsOf, Tryd.underlying43, Op.eqFields, Sem.run_bind, p0, p1, eqi, h, h']
@[go_sem] theorem eqCell (d : Nat) (a0 a1 a2 a3 a6 a7 b0 b1 b2 b3 b6 b7 : Int) (a4 b4 : Bool) (a5 b5 : ByteArray) (w : World) : (Op.equalIn (d + 3) 47 (.agg #[.int .i64 a0, .int .i64 a1, .int .i64 a2, .int .i64 a3, .bool a4, .string a5, .int .i64 a6, .int .i64 a7]) (.agg #[.int .i64 b0, .int .i64 b1, .int .i64 b2, .int .i64 b3, .bool b4, .string b5, .int .i64 b6, .int .i64 b7])).run Tryd.prog w = .ok ((a0 == b0 && a1 == b1) && ((a2 == b2 && a3 == b3) && ((a4 == b4) && ((a5.toList == b5.toList) && (a6 == b6 && a7 == b7))))) w := by
 rw [run_equalIn_struct w (d + 2) 47 _ _ (by kernel_rfl) (by kernel_rfl)]
 have p0 : ∀ (a0 a1 a2 a3 a6 a7 : Int) (a4 : Bool) (a5 : ByteArray) (w : World), (part 43 #[.int .i64 a0, .int .i64 a1, .int .i64 a2, .int .i64 a3, .bool a4, .string a5, .int .i64 a6, .int .i64 a7] 0).run Tryd.prog w = Result.ok (.agg #[.int .i64 a0, .int .i64 a1]) w := fun _ _ _ _ _ _ _ _ _ => by kernel_rfl
 have p1 : ∀ (a0 a1 a2 a3 a6 a7 : Int) (a4 : Bool) (a5 : ByteArray) (w : World), (part 45 #[.int .i64 a0, .int .i64 a1, .int .i64 a2, .int .i64 a3, .bool a4, .string a5, .int .i64 a6, .int .i64 a7] 2).run Tryd.prog w = Result.ok (.agg #[.int .i64 a2, .int .i64 a3]) w := fun _ _ _ _ _ _ _ _ _ => by kernel_rfl
 have p2 : ∀ (a0 a1 a2 a3 a6 a7 : Int) (a4 : Bool) (a5 : ByteArray) (w : World), (part 4 #[.int .i64 a0, .int .i64 a1, .int .i64 a2, .int .i64 a3, .bool a4, .string a5, .int .i64 a6, .int .i64 a7] 4).run Tryd.prog w = Result.ok (.bool a4) w := fun _ _ _ _ _ _ _ _ _ => by kernel_rfl
 have p3 : ∀ (a0 a1 a2 a3 a6 a7 : Int) (a4 : Bool) (a5 : ByteArray) (w : World), (part 9 #[.int .i64 a0, .int .i64 a1, .int .i64 a2, .int .i64 a3, .bool a4, .string a5, .int .i64 a6, .int .i64 a7] 5).run Tryd.prog w = Result.ok (.string a5) w := fun _ _ _ _ _ _ _ _ _ => by kernel_rfl
 have p4 : ∀ (a0 a1 a2 a3 a6 a7 : Int) (a4 : Bool) (a5 : ByteArray) (w : World), (part 45 #[.int .i64 a0, .int .i64 a1, .int .i64 a2, .int .i64 a3, .bool a4, .string a5, .int .i64 a6, .int .i64 a7] 6).run Tryd.prog w = Result.ok (.agg #[.int .i64 a6, .int .i64 a7]) w := fun _ _ _ _ _ _ _ _ _ => by kernel_rfl
 cases h0 : (a0 == b0 && a1 == b1)
 ·simp only [Program.fieldsOf, Tryd.underlying47, Op.eqFields, Sem.run_bind, Sem.run_ite, Sem.run_pure, Result.andThen_ok, p0, eqStamp, h0]; simp
 ·cases h1 : (a2 == b2 && a3 == b3)
  ·simp only [Program.fieldsOf, Tryd.underlying47, Op.eqFields, Sem.run_bind, Sem.run_ite, Sem.run_pure, Result.andThen_ok, p0, p1, eqStamp, eqVec, h0, h1]; simp
  ·cases h2 : (a4 == b4)
   ·simp only [Program.fieldsOf, Tryd.underlying47, Op.eqFields, Sem.run_bind, Sem.run_ite, Sem.run_pure, Result.andThen_ok, p0, p1, p2, eqStamp, eqVec, eqb, h0, h1, h2]; simp
   ·cases h3 : (a5.toList == b5.toList)
    ·simp only [Program.fieldsOf, Tryd.underlying47, Op.eqFields, Sem.run_bind, Sem.run_ite, Sem.run_pure, Result.andThen_ok, p0, p1, p2, p3, eqStamp, eqVec, eqb, eqs, h0, h1, h2, h3]; simp
    ·cases h4 : (a6 == b6 && a7 == b7)
     ·simp only [Program.fieldsOf, Tryd.underlying47, Op.eqFields, Sem.run_bind, Sem.run_ite, Sem.run_pure, Result.andThen_ok, p0, p1, p2, p3, p4, eqStamp, eqVec, eqb, eqs, h0, h1, h2, h3, h4]; simp
     ·simp only [Program.fieldsOf, Tryd.underlying47, Op.eqFields, Sem.run_bind, Sem.run_ite, Sem.run_pure, Result.andThen_ok, p0, p1, p2, p3, p4, eqStamp, eqVec, eqb, eqs, h0, h1, h2, h3, h4]; simp
theorem guardVec : Tryd.prog.eqGuardType Tryd.prog.depth 45 = false := by kernel_rfl
@[go_sem] theorem grdVec (op : BinOp) (x y : Operand) (xs ys : Array Value) (w : World) : (eqGuard op 45 x y (.agg xs) (.agg ys)).run Tryd.prog w = .ok () w := run_eqGuard_agg w op 45 x y xs ys guardVec
theorem guardInt2 : Tryd.prog.eqGuardType Tryd.prog.depth 44 = false := by kernel_rfl
@[go_sem] theorem grdInt2 (op : BinOp) (x y : Operand) (xs ys : Array Value) (w : World) : (eqGuard op 44 x y (.agg xs) (.agg ys)).run Tryd.prog w = .ok () w := run_eqGuard_agg w op 44 x y xs ys guardInt2
theorem guardStamp : Tryd.prog.eqGuardType Tryd.prog.depth 43 = false := by kernel_rfl
@[go_sem] theorem grdStamp (op : BinOp) (x y : Operand) (xs ys : Array Value) (w : World) : (eqGuard op 43 x y (.agg xs) (.agg ys)).run Tryd.prog w = .ok () w := run_eqGuard_agg w op 43 x y xs ys guardStamp
theorem guardCell : Tryd.prog.eqGuardType Tryd.prog.depth 47 = false := by kernel_rfl
@[go_sem] theorem grdCell (op : BinOp) (x y : Operand) (xs ys : Array Value) (w : World) : (eqGuard op 47 x y (.agg xs) (.agg ys)).run Tryd.prog w = .ok () w := run_eqGuard_agg w op 47 x y xs ys guardCell
end Go.Proofs.YtkknpeeccejppaaDoor
namespace Go.Proofs.YtkknpeeccejppaaDoor
open Go.RowKit
def eqBy : List Value → List Value → Option Bool
 | [], [] => some true
 | .int .u8 a :: xs, .int .u8 b :: ys => match eqBy xs ys with
  | some r => some (a == b && r)
  | none => none
 | _, _ => none
theorem guardDigest : Tryd.prog.eqGuardType Tryd.prog.depth 51 = false := by kernel_rfl
theorem undDigest : Tryd.prog.underlying 51 = some (.array 32 5) := by kernel_rfl
theorem cellsU8 : Tryd.prog.cellsOf 5 = 1 := by kernel_rfl
theorem equ8 (d : Nat) (a b : Int) (w : World) : (Op.equalIn (d + 1) 5 (.int .u8 a) (.int .u8 b)).run Tryd.prog w = .ok (a == b) w := run_equalIn_int w d 5 .u8 .u8 a b (by kernel_rfl)
theorem partU8 (w : World) {cs : Array Value} {i : Nat} {v : Value} (h : cs.toList[i]? = some v) : (part 5 cs (i * 1)).run Tryd.prog w = .ok v w := by
 have hu : Tryd.prog.underlying 5 = some (.int .u8) := by kernel_rfl
 have hc : cs[i]? = some v := by simpa using h
 simp [part, isAgg, run_underlying hu, hc]
theorem eqBy_items (d : Nat) (cs ds : Array Value) (w : World) : ∀ (xs ys : List Value) (k : Nat) (r : Bool), cs.toList.drop k = xs → ds.toList.drop k = ys → eqBy xs ys = some r → (Op.eqItems (d + 1) 5 1 cs ds (List.range' k xs.length)).run Tryd.prog w = .ok r w
 | [], ys, k, r, _, _, h => by
  cases ys with
  | nil => unfold eqBy at h; cases h; simp [Op.eqItems]
  | cons _ _ => unfold eqBy at h; cases h
 | x :: xs, ys, k, r, h1, h2, h => by
  unfold eqBy at h
  split at h <;> first | (cases h; done) | skip
  ·rename_i e; cases e
  rename_i a xs' b ys' e
  cases e
  cases h3 : eqBy xs ys' with
  | none => rw [h3] at h; cases h
  | some q =>
   rw [h3] at h
   cases h
   have hx : cs.toList[k]? = some (.int .u8 a) := by
    have : (cs.toList.drop k)[0]? = some (.int .u8 a) := by rw [h1]; rfl
    rw [List.getElem?_drop] at this; simpa using this
   have hy : ds.toList[k]? = some (.int .u8 b) := by
    have : (ds.toList.drop k)[0]? = some (.int .u8 b) := by rw [h2]; rfl
    rw [List.getElem?_drop] at this; simpa using this
   have n1 : cs.toList.drop (k + 1) = xs := by rw [← List.drop_drop, h1]; rfl
   have n2 : ds.toList.drop (k + 1) = ys' := by rw [← List.drop_drop, h2]; rfl
   have ih := eqBy_items d cs ds w xs ys' (k + 1) q n1 n2 h3
   rw [List.length_cons, List.range'_succ]
   simp only [Op.eqItems, Sem.run_bind, partU8 w hx, partU8 w hy, Result.andThen_ok, equ8]
   cases hab : a == b
   ·simp
   ·simpa using ih
theorem eqDigest (d : Nat) (xs ys : List Value) (r : Bool) (hn : Nat.beq xs.length 32 = true) (h : eqBy xs ys = some r) (w : World) : (Op.equalIn (d + 2) 51 (.agg xs.toArray) (.agg ys.toArray)).run Tryd.prog w = .ok r w := by
 have hs : (Tryd.prog.info? 5).isSome = true := by kernel_rfl
 obtain ⟨i, hi⟩ := Option.isSome_iff_exists.1 hs
 rw [run_equalIn_array w (d + 1) xs.toArray ys.toArray undDigest hi, cellsU8, List.range_eq_range', ← Nat.eq_of_beq_eq_true hn]
 exact eqBy_items d xs.toArray ys.toArray w xs ys 0 r (by simp) (by simp) h
end Go.Proofs.YtkknpeeccejppaaDoor
namespace Go.Proofs.YtkknpeeccejppaaDoor
open Go.RowKit
instance (n : Nat) : Decidable (Stuck n) := .isFalse id
theorem wideP : Tryd.prog.follows .mixedOrders = true := by kernel_rfl
def eqV2 : List Value → List Value → Option Bool
 | [.int .i64 a, .int .i64 b], [.int .i64 x, .int .i64 y] => some (a == x && b == y)
 | _, _ => none
def eqC8 : List Value → List Value → Option Bool
 | [.int .i64 a0, .int .i64 a1, .int .i64 a2, .int .i64 a3, .bool a4, .string a5, .int .i64 a6, .int .i64 a7], [.int .i64 b0, .int .i64 b1, .int .i64 b2, .int .i64 b3, .bool b4, .string b5, .int .i64 b6, .int .i64 b7] =>
  some ((a0 == b0 && a1 == b1) && ((a2 == b2 && a3 == b3) && ((a4 == b4) && ((a5.toList == b5.toList) && (a6 == b6 && a7 == b7)))))
 | _, _ => none
def eqDg (t : TypeId) (xs ys : List Value) : Option Bool := bif Nat.beq t 51 then (bif Nat.beq xs.length 32 then eqBy xs ys else none) else none
theorem eqDg_ok : EqOk Tryd.prog eqDg := fun t xs ys b h => by
 unfold eqDg at h
 cases h5 : Nat.beq t 51 with
 | true =>
  rw [h5] at h
  rw [Nat.eq_of_beq_eq_true h5]
  refine ⟨guardDigest, fun R => ?_⟩
  cases h6 : Nat.beq xs.length 32 with
  | true =>
   rw [h6] at h
   exact eqDigest 9998 xs ys b h6 h R
  | false =>
   rw [h6] at h
   cases h
 | false =>
  rw [h5] at h
  cases h
abbrev eqMore := eqDg
theorem eqMore_ok : EqOk Tryd.prog eqMore := eqDg_ok
abbrev eqFl := eqMore
theorem eqFl_ok : EqOk Tryd.prog eqFl := eqMore_ok
def eqTab (t : TypeId) (xs ys : List Value) : Option Bool :=
 bif Nat.beq t 45 then eqV2 xs ys else bif Nat.beq t 43 then eqV2 xs ys else bif Nat.beq t 47 then eqC8 xs ys else eqFl t xs ys
theorem eqTab_ok : EqOk Tryd.prog eqTab := fun t xs ys b h => by
 unfold eqTab at h
 cases h1 : Nat.beq t 45 with
 | true =>
  rw [h1] at h
  rw [Nat.eq_of_beq_eq_true h1]
  refine ⟨guardVec, fun R => ?_⟩
  unfold eqV2 at h
  simp only [cond_true] at h
  split at h <;> first | (cases h; done) | skip
  cases h
  exact eqVec 9998 _ _ _ _ R
 | false =>
 cases h2 : Nat.beq t 43 with
 | true =>
  rw [h1, h2] at h
  rw [Nat.eq_of_beq_eq_true h2]
  refine ⟨guardStamp, fun R => ?_⟩
  unfold eqV2 at h
  simp only [cond_true, cond_false] at h
  split at h <;> first | (cases h; done) | skip
  cases h
  exact eqStamp 9998 _ _ _ _ R
 | false =>
 cases h3 : Nat.beq t 47 with
 | true =>
  rw [h1, h2, h3] at h
  rw [Nat.eq_of_beq_eq_true h3]
  refine ⟨guardCell, fun R => ?_⟩
  unfold eqC8 at h
  simp only [cond_true, cond_false] at h
  split at h <;> first | (cases h; done) | skip
  cases h
  exact eqCell 9997 _ _ _ _ _ _ _ _ _ _ _ _ _ _ _ _ R
 | false =>
  rw [h1, h2, h3] at h
  exact eqFl_ok t xs ys b h
noncomputable def envT (C : Tab) (L : LTab) : Env := ⟨Tryd.prog, eqTab, C, false, tcTab, L⟩
noncomputable def envL (C : Tab) : Env := ⟨Tryd.prog, eqTab, C, true, tcTab, L0⟩
theorem envT_ok {C : Tab} {L : LTab} (hC : COk Tryd.prog C) (hL : ∀ l s b ps outs, L l s = some (b, ps, outs) → Wf s ⟨ps, outs, none⟩ ∧ LoopOk (envT C L) b s ps outs) : CodeOk (envT C L) where
 suf f args nx o k x nx' o' ps h := (hC f args nx o k x nx' o' ps h).2
 wide := wideP
 eq := eqTab_ok
 C f args nx o k x nx' o' ps h := (hC f args nx o k x nx' o' ps h).1
 tc := tcTab_ok
 loops := hL
theorem envL_ok {C : Tab} (hC : COk Tryd.prog C) : CodeOk (envL C) where
 suf f args nx o k x nx' o' ps h := (hC f args nx o k x nx' o' ps h).2
 wide := wideP
 eq := eqTab_ok
 C f args nx o k x nx' o' ps h := (hC f args nx o k x nx' o' ps h).1
 tc := tcTab_ok
 loops _ _ _ _ _ h := by cases h
end Go.Proofs.YtkknpeeccejppaaDoor
namespace Go.Proofs.YtkknpeeccejppaaDoor
open Go.RowKit
def LpOk (L : LTab) : Prop := ∀ l s b ps outs, L l s = some (b, ps, outs) → Wf s ⟨ps, outs, none⟩ ∧ LoopOk (envT C0 L0) b s ps outs
theorem L0_ok : LpOk L0 := fun _ _ _ _ _ h => by cases h
theorem addLp_ok {l0 : Nat} {g : St → Option (Code × List Prop × Outs)} {L : LTab} (hg : ∀ s b ps outs, g s = some (b, ps, outs) → Wf s ⟨ps, outs, none⟩ ∧ LoopOk (envT C0 L0) b s ps outs) (hL : LpOk L) : LpOk (addLp l0 g L) := fun l s b ps outs h => by
 unfold addLp at h
 cases hb : Nat.beq l l0 with
 | true => rw [hb] at h; exact hg s b ps outs h
 | false => rw [hb] at h; exact hL l s b ps outs h
theorem envP_ok {C : Tab} {L : LTab} (hC : COk Tryd.prog C) (hL : LpOk L) : CodeOk (envT C L) := envT_ok hC hL
theorem rowP_ok {C : Tab} {L : LTab} (hC : COk Tryd.prog C) (hL : LpOk L) {u : Nat} {b : Code} {S : Shape} {En : Entry} {X : Type} {T : X → St} {unT : St → Option X} {fuel : X → Nat} {next : X → X} {goes : X → Cnd} {psA ps : X → List Prop} {outs : X → Outs} (hS : okL S.nb S.nx1 S.ren = true) (hnb : S.nb ≤ S.nx1)
  (hr : ∀ x, roundE (envT C L) u b S (T x) = some (psA x, outs x, goes x, T (next x))) (hA : ∀ x, (∀ p ∈ ps x, p) → ∀ p ∈ psA x, p) (hu : ∀ s x, unT s = some x → s = T x)
  (hw : ∀ x, Once (outs x) ∧ ∀ t c y, getO t (outs x) = some (c, y) → y.n = (T x).n) (hTn : ∀ x y, (T x).n = (T y).n) : ∀ s b0 qs os, rowL (envT C L) b S En unT fuel next goes ps outs s = some (b0, qs, os) → Wf s ⟨qs, os, none⟩ ∧ LoopOk (envT C0 L0) b0 s qs os :=
 fun _ _ _ _ he => rowL_ok (envP_ok hC hL) hS hnb hr hA hu hw hTn he
def okOuts (n : Nat) : Outs → Bool
 | [] => true
 | (t, _, s) :: r => Nat.beq s.n n && ((match getO t r with | some _ => false | none => true) && okOuts n r)
theorem okOuts_ok {n : Nat} : ∀ {o : Outs}, okOuts n o = true → Once o ∧ ∀ t c y, getO t o = some (c, y) → y.n = n
 | [], _ => ⟨trivial, fun t c y h => by cases h⟩
 | (k, d, s) :: r, h => by
  unfold okOuts at h
  simp only [Bool.and_eq_true] at h
  obtain ⟨h1, h2, h3⟩ := h
  obtain ⟨g1, g2⟩ := okOuts_ok h3
  refine ⟨⟨?_, g1⟩, fun t c y hy => ?_⟩
  ·cases hg : getO k r with
   | none => rfl
   | some x => rw [hg] at h2; cases h2
  ·have hy' : (bif tagB k t then some (d, s) else getO t r) = some (c, y) := hy
   cases hb : tagB k t with
   | true => rw [hb] at hy'; cases hy'; exact Nat.eq_of_beq_eq_true h1
   | false => rw [hb] at hy'; exact g2 t c y hy'
theorem wrapU8 (x : Int) : 0 ≤ IntKind.u8.wrap x ∧ IntKind.u8.wrap x < 256 := by
 simp only [IntKind.wrap, IntKind.bits, IntKind.signed]
 have h1 := Int.emod_nonneg x (show (256 : Int) ≠ 0 by decide)
 have h2 := Int.emod_lt_of_pos x (show (0 : Int) < 256 by decide)
 exact ⟨h1, h2⟩
theorem wrapU64 (x : Int) : 0 ≤ IntKind.u64.wrap x := by
 simp only [IntKind.wrap, IntKind.bits, IntKind.signed]
 exact Int.emod_nonneg x (by decide)
def argT (c : TC) (x : A) : Option (U c × List Prop) := match cellsA x with
 | some cs => dec c cs
 | none => none
def argL (c : TC) : A → Option (List (U c))
 | .sl c' l => match TC.same c' c with
  | some h => some (castL h.down l)
  | none => none
 | .nl => some []
 | .v x => bif isNilV x then some [] else none
 | _ => none
section
variable {F : Nat → Prop} {N : Nm} {nx : Nat} {R : World}
theorem argL_ok {c : TC} {x : A} {l : List (U c)} {v : Value} (he : argL c x = some l) (h : Hv F N nx R x v) : Hv F N nx R (.sl c l) v := by
 unfold argL at he
 split at he <;> first | (cases he; done) | skip
 ·split at he <;> first | (cases he; done) | skip
  rename_i h1 _
  obtain ⟨h1⟩ := h1
  subst h1
  cases he
  exact h
 ·cases he
  obtain ⟨a, e⟩ := h.nl_inv
  exact Hv.sl_nil e
 ·rename_i x
  cases hb : isNilV x with
  | false => rw [hb] at he; cases he
  | true =>
   rw [hb] at he
   cases he
   exact Hv.sl_nil (by rw [h.v_inv, isNilV_ok hb])
theorem hl_agg {c : TC} {d : U c} {vs : List Value} (h : HL F N nx R (enc c d) vs) (ha : c.isAgg = true) : Hv F N nx R (valA c d) (.agg vs.toArray) := by
 unfold valA
 rw [ha]
 exact aggA_ok h
theorem hl_one {c : TC} {d : U c} {vs : List Value} {v : Value} (h : HL F N nx R (enc c d) vs) (ha : c.isAgg = false) (hv : vs[0]? = some v) : Hv F N nx R (valA c d) v := by
 unfold valA
 rw [ha]
 show Hv F N nx R (match enc c d with | x :: _ => x | [] => .dead) v
 generalize enc c d = l at h
 cases l with
 | nil => exact .dead _
 | cons x r =>
  obtain ⟨w, ws, rfl, h1, _⟩ := h.inv
  cases hv
  exact h1
def fitsT (c : TC) : A → Bool
 | .v (.agg _) => c.isAgg
 | .agg _ => c.isAgg
 | .v (.tuple _) => false
 | .v x => !c.isAgg && x.oneCell'
 | .opt _ _ _ => false
 | .tup _ => false
 | .dead => false
 | .it _ _ => false
 | .sq _ => false
 | .dq _ => false
 | .iv _ _ => false
 | .de _ _ _ _ => false
 | .ie _ _ _ _ _ => false
 | .av _ _ _ => false
 | .rv _ => false
 | .vr _ _ _ _ => false
 | _ => !c.isAgg
def argU (c : TC) (x : A) : Option (U c × List Prop) := bif fitsT c x then argT c x else none
theorem argU_ok {c : TC} {x : A} {d : U c} {ps : List Prop} {v : Value} (he : argU c x = some (d, ps)) (hp : ∀ p ∈ ps, p) (h : Hv F N nx R x v) : Hv F N nx R (valA c d) v := by
 unfold argU at he
 cases hf : fitsT c x with
 | false => rw [hf] at he; cases he
 | true =>
  rw [hf] at he
  simp only [cond_true] at he
  unfold argT at he
  split at he <;> first | (cases he; done) | skip
  rename_i cs hcs
  have hd := dec_ok (F := F) (N := N) (nx := nx) (R := R) he hp
  have single : ∀ {y : A}, Hv F N nx R y v → cs = [y] → c.isAgg = false → Hv F N nx R (valA c d) v := fun {y} hy e hc => by
   subst e
   exact hl_one (hd [v] (HL.cons hy HL.nil)) hc rfl
  cases x <;> first | (cases hf; done) | skip
  ·rename_i y
   have hv := h.v_inv
   subst hv
   cases hcs
   have hl : HL F N nx R (toL v.cells.toList) v.cells.toList := HL.toL _
   cases v with
   | agg xs =>
    have hl' : HL F N nx R (toL xs.toList) xs.toList := hl
    have := hl_agg (hd _ hl') hf
    simpa using this
   | tuple xs => cases hf
   | _ =>
    simp only [fitsT, Bool.and_eq_true, Bool.not_eq_true'] at hf
    exact hl_one (hd _ hl) hf.1 rfl
  ·cases hcs
   exact single h rfl (by simpa [fitsT] using hf)
  ·cases hcs
   exact single h rfl (by simpa [fitsT] using hf)
  ·cases hcs
   exact single h rfl (by simpa [fitsT] using hf)
  ·cases hcs
   exact single h rfl (by simpa [fitsT] using hf)
  ·cases hcs
   exact single h rfl (by simpa [fitsT] using hf)
  ·cases hcs
   exact single h rfl (by simpa [fitsT] using hf)
  ·cases hcs
   exact single h rfl (by simpa [fitsT] using hf)
  ·cases hcs
   exact single h rfl (by simpa [fitsT] using hf)
  ·cases hcs
   exact single h rfl (by simpa [fitsT] using hf)
  ·cases hcs
   obtain ⟨vs, rfl, h2⟩ := h.agg_inv
   exact hl_agg (hd _ h2) hf
end
theorem freeL_nil : freeL [] = true := by unfold freeL; rfl
theorem freeL_cons {x : A} {r : List A} (h : x.free = true) (k : freeL r = true) : freeL (x :: r) = true := by unfold freeL; rw [h, k]; rfl
theorem valA_free (c : TC) (d : U c) : (valA c d).free = true := by
 have hfr : ∀ l : List A, (∀ x ∈ l, x.free = true) → freeL l = true := fun l => by
  induction l with
  | nil => intro _; unfold freeL; rfl
  | cons x r ih => intro h; unfold freeL; rw [h x (List.mem_cons_self ..), ih fun y hy => h y (List.mem_cons_of_mem _ hy)]; rfl
 have h := enc_free c d
 unfold valA
 cases c.isAgg with
 | true =>
  show (aggA (enc c d)).free = true
  unfold aggA
  split
  ·unfold A.free; rfl
  ·unfold A.free; exact hfr _ h
 | false =>
  show A.free (match enc c d with | x :: _ => x | [] => .dead) = true
  have hl := enc_length c d
  have hs : 0 < size c := by cases c <;> decide
  generalize enc c d = l at h hl
  cases l with
  | nil => rw [← hl] at hs; cases hs
  | cons x r => exact h x (List.mem_cons_self ..)
theorem callOk_args {P : Program} {f : FuncId} {args args' : List A} {nx k nx' : Nat} {o o' : Objs} {x : A} (h : CallOk P f args' nx o k x nx' o') (ha : ∀ (F : Nat → Prop) (N : Nm) (R : World) (vs : List Value), HL F N nx R args vs → HL F N nx R args' vs) : CallOk P f args nx o k x nx' o' :=
 fun F N R vs hh hl => h F N R vs hh (ha F N R vs hl)
inductive Kd where
 | l (c : TC)
 | t (c : TC)
 | a (c : TC) (n : Nat)
def Fn (X : Type) : List Kd → Type
 | [] => X
 | .l c :: r => List (U c) → Fn X r
 | .t c :: r => U c → Fn X r
 | .a c _ :: r => List (U c) → Fn X r
abbrev FnP := Fn (List Prop)
def allP (ps : List Prop) : Prop := ∀ p ∈ ps, p
def addQ (q : List Prop) : Option CRes → Option CRes
 | some (k, x, nx, o, p) => some (k, x, nx, o, q ++ p)
 | none => none
def rowG (m nx : Nat) (ob : Objs) : (ks : List Kd) → Fn A ks → Fn Objs ks → FnP ks → List A → Option CRes
 | [], r, o, ps, [] => some (1, A.pk (shiftR nx) r, nx + m, shiftO nx o ++ ob, ps)
 | .l c :: ks, r, o, ps, y :: ys => match argL c y with
  | some a => rowG m nx ob ks (r a) (o a) (ps a) ys
  | none => none
 | .t c :: ks, r, o, ps, y :: ys => match argU c y with
  | some (a, q) => addQ q (rowG m nx ob ks (r a) (o a) (ps a) ys)
  | none => none
 | .a c n :: ks, r, o, ps, y :: ys => match argA c n y with
  | some (a, q) => addQ q (rowG m nx ob ks (r a) (o a) (ps a) ys)
  | none => none
 | _, _, _, _, _ => none
def rowK (ks : List Kd) (m : Nat) (r : Fn A ks) (o : Fn Objs ks) (ps : FnP ks) : List A → Nat → Objs → Option CRes := fun args nx ob => rowG m nx ob ks r o ps args
def OkG (P : Program) (f : FuncId) (m : Nat) : (ks : List Kd) → List A → Fn A ks → Fn Objs ks → FnP ks → Prop
 | [], pre, r, o, ps => allP ps → CallOk P f pre 0 [] 1 r m o
 | .l c :: ks, pre, r, o, ps => ∀ a, OkG P f m ks (pre ++ [.sl c a]) (r a) (o a) (ps a)
 | .t c :: ks, pre, r, o, ps => ∀ a, OkG P f m ks (pre ++ [valA c a]) (r a) (o a) (ps a)
 | .a c n :: ks, pre, r, o, ps => ∀ a, OkG P f m ks (pre ++ [.av c n a]) (r a) (o a) (ps a)
theorem freeL_app : ∀ {a b : List A}, freeL a = true → freeL b = true → freeL (a ++ b) = true
 | [], _, _, h => h
 | x :: a, b, h, g => by
  unfold freeL at h
  rw [Bool.and_eq_true] at h
  exact freeL_cons h.1 (freeL_app h.2 g)
theorem rowG_ok {P : Program} {f : FuncId} {m nx : Nat} {ob : Objs} : ∀ (ks : List Kd) (pre ys : List A) (r : Fn A ks) (o : Fn Objs ks) (ps : FnP ks), freeL pre = true → OkG P f m ks pre r o ps → ∀ {k x nx' o' qs}, rowG m nx ob ks r o ps ys = some (k, x, nx', o', qs) →
  (∃ d, o' = d ++ ob) ∧ ∃ zs, freeL zs = true ∧ ((∀ p ∈ qs, p) → (∀ (F : Nat → Prop) (N : Nm) (R : World) (vs : List Value), HL F N nx R ys vs → HL F N nx R zs vs) ∧ CallOk P f (pre ++ zs) nx ob k x nx' o') := by
 intro ks
 induction ks with
 | nil =>
  intro pre ys r o ps hf hok k x nx' o' qs he
  cases ys with
  | cons y ys => cases he
  | nil =>
   cases he
   exact ⟨⟨_, rfl⟩, [], freeL_nil, fun hp => ⟨fun _ _ _ _ h => h, by rw [List.append_nil]; exact callOk_shift (hok hp) (Nat.le_refl _) hf nx ob⟩⟩
 | cons kd ks ih =>
  intro pre ys r o ps hf hok k x nx' o' qs he
  cases ys with
  | nil => cases kd <;> cases he
  | cons y ys =>
   cases kd with
   | l c =>
    unfold rowG at he
    split at he <;> first | (cases he; done) | skip
    rename_i a ha
    obtain ⟨h1, zs, h2, h3⟩ := ih (pre ++ [.sl c a]) ys (r a) (o a) (ps a) (freeL_app hf (freeL_cons (by unfold A.free; rfl) freeL_nil)) (hok a) he
    refine ⟨h1, .sl c a :: zs, freeL_cons (by unfold A.free; rfl) h2, fun hp => ⟨fun F N R vs hl => ?_, by have := (h3 hp).2; rwa [List.append_assoc] at this⟩⟩
    obtain ⟨v, w, rfl, q1, q2⟩ := hl.inv
    exact HL.cons (argL_ok ha q1) ((h3 hp).1 F N R w q2)
   | t c =>
    unfold rowG at he
    split at he <;> first | (cases he; done) | skip
    rename_i a q ha
    unfold addQ at he
    split at he <;> first | (cases he; done) | skip
    rename_i k1 x1 nx1 o1 p1 he1
    cases he
    obtain ⟨h1, zs, h2, h3⟩ := ih (pre ++ [valA c a]) ys (r a) (o a) (ps a) (freeL_app hf (freeL_cons (valA_free _ _) freeL_nil)) (hok a) he1
    refine ⟨h1, valA c a :: zs, freeL_cons (valA_free _ _) h2, fun hp => ?_⟩
    have hp1 := fun p hm => hp p (List.mem_append.2 (.inl hm))
    have hp2 := h3 fun p hm => hp p (List.mem_append.2 (.inr hm))
    refine ⟨fun F N R vs hl => ?_, by have := hp2.2; rwa [List.append_assoc] at this⟩
    obtain ⟨v, w, rfl, q1, q2⟩ := hl.inv
    exact HL.cons (argU_ok ha hp1 q1) (hp2.1 F N R w q2)
   | a c n =>
    unfold rowG at he
    split at he <;> first | (cases he; done) | skip
    rename_i a q ha
    unfold addQ at he
    split at he <;> first | (cases he; done) | skip
    rename_i k1 x1 nx1 o1 p1 he1
    cases he
    obtain ⟨h1, zs, h2, h3⟩ := ih (pre ++ [.av c n a]) ys (r a) (o a) (ps a) (freeL_app hf (freeL_cons (by unfold A.free; rfl) freeL_nil)) (hok a) he1
    refine ⟨h1, .av c n a :: zs, freeL_cons (by unfold A.free; rfl) h2, fun hp => ?_⟩
    have hp1 := fun p hm => hp p (List.mem_append.2 (.inl hm))
    have hp2 := h3 fun p hm => hp p (List.mem_append.2 (.inr hm))
    refine ⟨fun F N R vs hl => ?_, by have := hp2.2; rwa [List.append_assoc] at this⟩
    obtain ⟨v, w, rfl, q1, q2⟩ := hl.inv
    exact HL.cons (argA_ok ha hp1 q1) (hp2.1 F N R w q2)
theorem rowK_ok {P : Program} {f : FuncId} {ks : List Kd} {m : Nat} {r : Fn A ks} {o : Fn Objs ks} {ps : FnP ks} (h : OkG P f m ks [] r o ps) : TOk P f (rowK ks m r o ps) := fun args nx ob k x nx' o' qs he => by
 obtain ⟨h1, zs, _, h3⟩ := rowG_ok ks [] args r o ps freeL_nil h he
 exact ⟨fun hp => callOk_args (h3 hp).2 (h3 hp).1, h1⟩
theorem HW.free {F : Nat → Prop} {N N' : Nm} {nx nx' : Nat} {R : World} : ∀ {xs : List A} {us : List Value}, freeL xs = true → HW F N nx R xs us → HW F N' nx' R xs us
 | [], _, _, h => h
 | x :: r, _, hf, ⟨v, t, h1, h2, h3, h4⟩ => by unfold freeL at hf; rw [Bool.and_eq_true] at hf; exact ⟨v, t, h1, h2.free hf.1, h3, HW.free hf.2 h4⟩
theorem callOk_own {P : Program} {f : FuncId} {args : List A} {e e' : TypeId} {xs xs' : List A} {k nx1 : Nat} {x : A} {o1 : Objs} (h : CallOk P f (.own 0 0 :: args) 1 [(0, some (.rcd e xs))] k x nx1 o1) (h0 : lookO 0 o1 = some (.rcd e' xs'))
  (hf : freeL args = true) (hx : freeL xs = true) (hx' : freeL xs' = true) (hr : x.free = true) {i nx : Nat} {o : Objs} (hi : lookO i o = some (.rcd e xs)) : CallOk P f (.own i 0 :: args) nx o 2 x nx ((i, some (.rcd e' xs')) :: o) := fun F N R vs hh ha => by
 obtain ⟨v, ws, rfl, g1, g2⟩ := ha.inv
 obtain ⟨hin, us, u1, u2⟩ := hh.ob i _ hi
 let N1 : Nm := ⟨fun _ => N.b i, N.q⟩
 have one : ∀ {z : Ob} {j : Nat} {ob : Ob}, lookO j [(0, some z)] = some ob → j = 0 ∧ ob = z := fun {z j ob} hj => by
  rw [lookO_cons] at hj
  by_cases e : j = 0
  ·rw [if_pos e] at hj; cases hj; exact ⟨e, rfl⟩
  ·rw [if_neg e] at hj; cases hj
 have oneI : ∀ {z : Ob} {j : Nat} {ob : Ob}, lookO j [(i, some z)] = some ob → j = i ∧ ob = z := fun {z j ob} hj => by
  rw [lookO_cons] at hj
  by_cases e : j = i
  ·rw [if_pos e] at hj; cases hj; exact ⟨e, rfl⟩
  ·rw [if_neg e] at hj; cases hj
 have h1 : HRel F N1 1 [(0, some (.rcd e xs))] R := ⟨hh.flt, fun j ob hj => by
   obtain ⟨rfl, rfl⟩ := one hj
   exact ⟨Nat.zero_lt_one, us, u1.free hx, u2⟩, fun j ob g hj hg => by
   obtain ⟨rfl, rfl⟩ := one hj
   exact hh.ff i _ g hi hg, fun j j' x y g hj hj' _ _ => by
   rw [(one hj).1, (one hj').1], hh.gl⟩
 have g3 : Hv F N1 1 R (.own 0 0) v := by
  cases g1 with
  | own _ => exact .own Nat.zero_lt_one
 refine (h F N1 R (v :: ws) h1 (HL.cons g3 (g2.free hf))).mono fun _ R' ⟨y, F', N', e1, e2, e3, e4, _⟩ => ?_
 have hb : N'.b 0 = N.b i := e3.b 0 Nat.zero_lt_one
 obtain ⟨h2, us', w1, w2⟩ := e2.ob 0 _ h0
 rw [hb] at w2
 have foot0 : ∀ {g}, Foot N1 [(0, some (.rcd e xs))] g ↔ g = N.b i := fun {g} => ⟨fun ⟨j, ob, hj, hg⟩ => by obtain ⟨rfl, rfl⟩ := one hj; exact hg, fun hg => ⟨0, _, rfl, hg⟩⟩
 have footI : ∀ {z : List A} {t : TypeId} {g}, Foot N [(i, some (.rcd t z))] g ↔ g = N.b i := fun {z t g} => ⟨fun ⟨j, ob, hj, hg⟩ => by obtain ⟨rfl, rfl⟩ := oneI hj; exact hg, fun hg => ⟨i, .rcd t z, by rw [lookO_cons, if_pos rfl], hg⟩⟩
 have st : Step F N nx [(i, some (.rcd e xs))] R F' N nx [(i, some (.rcd e' xs'))] R' := ⟨Nat.le_refl _, fun _ _ => rfl, fun _ _ => rfl, e3.f, fun g hg => by
   rcases e3.fnew g hg with k1 | k1 | k1
   ·exact .inl k1
   ·exact .inr (.inl (footI.2 (foot0.1 k1)))
   ·exact .inr (.inr k1), fun g hg => .inl (footI.2 (footI.1 hg)), e3.os, e3.tape, e3.output, e3.size, fun g hg hn => e3.keep g hg fun hf => hn (footI.2 (foot0.1 hf))⟩
 have hp : HRel F' N nx [(i, some (.rcd e' xs'))] R' := ⟨e2.flt, fun j ob hj => by
   obtain ⟨rfl, rfl⟩ := oneI hj
   exact ⟨hin, us', w1.free hx', w2⟩, fun j ob g hj hg => by
   obtain ⟨rfl, rfl⟩ := oneI hj
   exact e2.ff 0 _ g h0 (hg.trans hb.symm), fun j j' x y g hj hj' _ _ => by
   rw [(oneI hj).1, (oneI hj').1], e2.gl⟩
 obtain ⟨q1, q2⟩ := hh.frame (o1 := [(i, some (.rcd e xs))]) (o' := (i, some (.rcd e' xs')) :: o) (fun j ob hj => by obtain ⟨rfl, rfl⟩ := oneI hj; exact hi) st hp fun j ob hj => by
  rw [lookO_cons] at hj
  by_cases e : j = i
  ·rw [if_pos e] at hj; cases hj; exact .inl (by rw [lookO_cons, if_pos e])
  ·rw [if_neg e] at hj; exact .inr ⟨hj, by rw [lookO_cons, if_neg e]; rfl⟩
 exact ⟨y, F', N, e1, q1, q2, e4.free hr, fun hk => by omega⟩
end Go.Proofs.YtkknpeeccejppaaDoor
namespace Go.Proofs.YtkknpeeccejppaaDoor
open Go.RowKit
def wfInt (k : IntKind) (n : Int) : Prop := (Lit.int k n).wf = true
def WfS (x : TStamp) : Prop := wfInt .i64 x.n ∧ wfInt .i64 x.site
def WfV (x : TVec) : Prop := wfInt .i64 x.a ∧ wfInt .i64 x.b
def WfCell (x : TCell) : Prop := WfS x.stamp ∧ WfV x.vec ∧ True ∧ x.value.size ≤ maxLen ∧ WfV x.dead
def WfRow (x : TRow) : Prop := x.key.size ≤ maxLen ∧ (x.cells.length ≤ maxLen ∧ ∀ y ∈ x.cells, WfCell y)
def WfWrite (x : TWrite) : Prop := x.key.size ≤ maxLen ∧ wfInt .i64 x.group ∧ True ∧ x.value.size ≤ maxLen
def WfField (x : TField) : Prop := wfInt .i64 x.group ∧ x.value.size ≤ maxLen
def Wfd : (c : TC) → U c → Prop
 | .i64, n => wfInt .i64 n
 | .u32, n => wfInt .u32 n
 | .str, s => s.size ≤ maxLen
 | .vec, x => WfV x
 | .stamp, x => WfS x
 | .cell, x => WfCell x
 | .group, x => x.name.size ≤ maxLen ∧ wfInt .i64 x.policy
 | .write, x => WfWrite x
 | .row, x => WfRow x
 | .change, x => wfInt .i64 x.site ∧ wfInt .i64 x.seq ∧ WfS x.stamp ∧ WfV x.vec ∧ (x.writes.length ≤ maxLen ∧ ∀ y ∈ x.writes, WfWrite y)
 | .field, x => WfField x
 | .view, x => x.key.size ≤ maxLen ∧ (x.fields.length ≤ maxLen ∧ ∀ y ∈ x.fields, WfField y)
 | .told, x => wfInt .i64 x.ack ∧ wfInt .i64 x.own ∧ wfInt .i64 x.come
 | .act, x => wfInt .i64 x.kind ∧ WfRow x.row ∧ x.til.size ≤ maxLen ∧ wfInt .i64 x.n
 | .front, x => wfInt .i64 x.site ∧ wfInt .i64 x.acked ∧ wfInt .i64 x.stable ∧ wfInt .i64 x.wait ∧ wfInt .i64 x.til
 | .ask, x => WfS x.stamp ∧ WfV x.vec ∧ True ∧ x.value.size ≤ maxLen
 | .two, x => WfRow x.row ∧ wfInt .i64 x.group ∧ WfCell x.cell
 | .note, x => x.name.size ≤ maxLen ∧ x.text.size ≤ maxLen
 | .packet, x => wfInt .i64 x.src ∧ x.bytes.size ≤ maxLen
 | .place, x => x.key.size ≤ maxLen ∧ wfInt .i64 x.group
 | .bytes, l => l.length ≤ maxLen ∧ ∀ y ∈ l, True
 | .ints, l => l.length ≤ maxLen ∧ ∀ y ∈ l, wfInt .i64 y
 | .cells, l => l.length ≤ maxLen ∧ ∀ y ∈ l, WfCell y
 | .rows, l => l.length ≤ maxLen ∧ ∀ y ∈ l, WfRow y
 | .ask3, x => x.key.size ≤ maxLen ∧ x.from_.size ≤ maxLen ∧ x.til.size ≤ maxLen ∧ wfInt .i64 x.n
 | .three, x => (x.a.length ≤ maxLen ∧ ∀ y ∈ x.a, WfCell y) ∧ (x.b.length ≤ maxLen ∧ ∀ y ∈ x.b, WfCell y) ∧ (x.c.length ≤ maxLen ∧ ∀ y ∈ x.c, WfCell y)
 | _, _ => True
def FB (w : World) (F : Nat → Prop) : Prop := ∀ b, b < w.heap.size → F b
def OpnAt (P : Program) (c : TC) (t : TypeId) {H : Type} (en : TypeId × Value → H) (w : World) (base : Nat) (spare : Nat → Bool) (held : Bool) : Prop :=
 ∀ (m : Nat) (cs : List Value) (y : DataW H × List MemPlace), DataW.trod en P w base spare held m t cs = some y → ∃ x : U c, Wfd c x ∧ ∀ (F : Nat → Prop) (N : Nm) (nx : Nat), FB w F → HL F N nx w (enc c x) cs
def Opn (P : Program) (c : TC) (t : TypeId) : Prop := ∀ {H : Type} (en : TypeId × Value → H) (w : World) (base : Nat) (spare : Nat → Bool) (held : Bool), OpnAt P c t en w base spare held
def OpnLs (P : Program) (c : TC) (t : TypeId) : Prop := ∀ {H : Type} (en : TypeId × Value → H) (w : World) (base : Nat) (spare : Nat → Bool) (held : Bool) (m : Nat) (cs : List Value) (y : DataW H × List MemPlace),
 DataW.trod en P w base spare held m t cs = some y → ∃ l : List (U c), (l.length ≤ maxLen ∧ ∀ x ∈ l, Wfd c x) ∧ ∀ (F : Nat → Prop) (N : Nm) (nx : Nat), FB w F → HL F N nx w [.sl c l] cs
section
variable {P : Program} {t : TypeId}
theorem opn_i64 (hu : P.underlying t = some (.int .i64)) : Opn P .i64 t := fun en w base spare held m cs y h => by
 obtain ⟨n, rfl, _, hw⟩ := DataW.trod_int hu h
 exact ⟨n, hw, fun F N nx _ => HL.cons (Hv.v _) HL.nil⟩
theorem opn_bool (hu : P.underlying t = some .bool) : Opn P .bool t := fun en w base spare held m cs y h => by
 obtain ⟨n, rfl, _⟩ := DataW.trod_bool hu h
 exact ⟨n, trivial, fun F N nx _ => HL.cons (Hv.v _) HL.nil⟩
theorem opn_str (hu : P.underlying t = some .string) : Opn P .str t := fun en w base spare held m cs y h => by
 obtain ⟨n, rfl, _, hw⟩ := DataW.trod_string hu h
 exact ⟨n, hw, fun F N nx _ => HL.cons (Hv.v _) HL.nil⟩
theorem list_of {α : Type} {Q : Nat → α → Prop} : ∀ (n : Nat), (∀ i, i < n → ∃ x, Q i x) → ∃ l : List α, l.length = n ∧ ∀ (i : Nat) (x : α), l[i]? = some x → Q i x
 | 0, _ => ⟨[], rfl, fun i x h => by cases h⟩
 | n + 1, h => by
  obtain ⟨l, h1, h2⟩ := list_of n fun i hi => h i (by omega)
  obtain ⟨x, hx⟩ := h n (by omega)
  refine ⟨l ++ [x], by simp [h1], fun i y hy => ?_⟩
  rcases Nat.lt_trichotomy i n with hi | rfl | hi
  ·rw [List.getElem?_append_left (by omega)] at hy
   exact h2 i y hy
  ·rw [List.getElem?_append_right (by omega)] at hy
   simp [h1] at hy
   subst hy
   exact hx
  ·rw [List.getElem?_eq_none (by simp; omega)] at hy
   cases hy
theorem cells_get {w : World} {base : Nat} {a : Addr} {n : Nat} {cs : List Value} (h : w.cells? base a n = some cs) : base ≤ a.block ∧ cs.length = n ∧ ∀ (j : Nat) (v : Value), cs[j]? = some v → w.cell? (a.add j) = some v := by
 unfold World.cells? at h
 split at h
 ·rename_i hb
  refine ⟨hb, by simpa using mapM_some_length h, fun j v hv => ?_⟩
  have hl : cs.length = n := by simpa using mapM_some_length h
  have hj : j < n := by
   have := (List.getElem?_eq_some_iff.1 hv).1
   omega
  have := mapM_some_get h j j (by simp [hj])
  rw [this, hv]
 ·cases h
theorem opn_list {c : TC} {e : TypeId} (hu : P.underlying t = some (.slice e)) (hs : P.cellsOf e = size c) (he : Opn P c e) : OpnLs P c t := fun en w base spare held m cs y h => by
 rcases DataW.trod_slice hu h with ⟨rfl, _⟩ | ⟨a, len, cap, elems, rest, n, _, rfl, _, hb, hlc, hcm, hel, hg, _⟩
 ·exact ⟨[], ⟨Nat.zero_le _, fun x hx => by cases hx⟩, fun F N nx _ => HL.cons (Hv.sl_nil (a := none) rfl) HL.nil⟩
 ·have each : ∀ i, i < len → ∃ x : U c, Wfd c x ∧ ∃ zs, w.cells? base (a.add (i * size c)) (size c) = some zs ∧ ∀ (F : Nat → Prop) (N : Nm) (nx : Nat), FB w F → HL F N nx w (enc c x) zs := fun i hi => by
   have := hg i hi
   rw [hs] at this
   have h2 : elems[i]? ≠ none := by
    intro h0
    rw [List.getElem?_eq_none_iff] at h0
    omega
   obtain ⟨z, hz⟩ := Option.ne_none_iff_exists'.1 h2
   rw [hz] at this
   obtain ⟨zs, h3, h4⟩ := Option.bind_eq_some_iff.1 this
   obtain ⟨x, h5, h6⟩ := he en w base spare held n zs z h4
   exact ⟨x, h5, zs, h3, h6⟩
  obtain ⟨l, h1, h2⟩ := list_of len each
  refine ⟨l, ⟨by omega, fun x hx => ?_⟩, fun F N nx hF => HL.cons ?_ HL.nil⟩
  ·obtain ⟨i, hi⟩ := List.getElem?_of_mem hx
   exact (h2 i x hi).1
  ·subst h1
   refine Hv.sl a hlc (fun hp => ⟨rfl, ?_⟩) (fun i d j x hd hx => ?_) (fun i d j x y hd hx hy => ?_)
   ·obtain ⟨_, zs, h3, h4⟩ := h2 0 l[0] (by rw [List.getElem?_eq_getElem hp])
    obtain ⟨_, h5, h6⟩ := cells_get h3
    have hsz : 0 < zs.length := by rw [h5]; cases c <;> decide
    have := h6 0 zs[0] (by rw [List.getElem?_eq_getElem hsz])
    have := World.block_lt_of_cell? w _ this
    rw [add_block, add_block] at this
    exact hF _ this
   ·obtain ⟨_, zs, h3, h4⟩ := h2 i d hd
    obtain ⟨v, h5, h6⟩ := (h4 F N nx hF).get hx
    refine ⟨v, ?_⟩
    rw [← add_add]
    exact (cells_get h3).2.2 j v h5
   ·obtain ⟨_, zs, h3, h4⟩ := h2 i d hd
    obtain ⟨v, h5, h6⟩ := (h4 F N nx hF).get hx
    have := (cells_get h3).2.2 j v h5
    rw [add_add, hy] at this
    cases this
    exact h6
end
section
variable {H : Type} {en : TypeId × Value → H} {P : Program} {w : World} {base : Nat} {spare : Nat → Bool} {held : Bool} {F : Nat → Prop} {N : Nm} {nx : Nat}
theorem fldO {fs : Array Field} {cs : List Value} {m i : Nat} {xs : List (DataW H × List MemPlace)} {f : Field} {t : TypeId} {o k : Nat} {c : TC} (ho : Opn P c t) (hf : fs[i]? = some f) (ht : f.type = t) (hof : f.offset = o) (hk : P.cellsOf t = k) (hi : i < xs.length)
  (g : ∀ (i : Nat) (f : Field), fs[i]? = some f → DataW.trod en P w base spare held m f.type ((cs.drop f.offset).take (P.cellsOf f.type)) = xs[i]?) : ∃ x : U c, Wfd c x ∧ ∀ (F : Nat → Prop) (N : Nm) (nx : Nat), FB w F → HL F N nx w (enc c x) ((cs.drop o).take k) := by
 subst ht hof hk
 have := g i f hf
 rw [List.getElem?_eq_getElem hi] at this
 exact ho en w base spare held m _ _ this
theorem fldL {fs : Array Field} {cs : List Value} {m i : Nat} {xs : List (DataW H × List MemPlace)} {f : Field} {t : TypeId} {o k : Nat} {c : TC} (ho : OpnLs P c t) (hf : fs[i]? = some f) (ht : f.type = t) (hof : f.offset = o) (hk : P.cellsOf t = k) (hi : i < xs.length)
  (g : ∀ (i : Nat) (f : Field), fs[i]? = some f → DataW.trod en P w base spare held m f.type ((cs.drop f.offset).take (P.cellsOf f.type)) = xs[i]?) : ∃ l : List (U c), (l.length ≤ maxLen ∧ ∀ x ∈ l, Wfd c x) ∧ ∀ (F : Nat → Prop) (N : Nm) (nx : Nat), FB w F → HL F N nx w [.sl c l] ((cs.drop o).take k) := by
 subst ht hof hk
 have := g i f hf
 rw [List.getElem?_eq_getElem hi] at this
 exact ho en w base spare held m _ _ this
theorem arrO {cs : List Value} {m i n : Nat} {xs : List (DataW H × List MemPlace)} {t : TypeId} {k : Nat} {c : TC} (ho : Opn P c t) (hk : P.cellsOf t = k) (hx : i < xs.length) (hn : i < n)
  (g : ∀ (i : Nat), i < n → DataW.trod en P w base spare held m t ((cs.drop (i * P.cellsOf t)).take (P.cellsOf t)) = xs[i]?) : ∃ x : U c, Wfd c x ∧ ∀ (F : Nat → Prop) (N : Nm) (nx : Nat), FB w F → HL F N nx w (enc c x) ((cs.drop (i * k)).take k) := by
 subst hk
 have := g i hn
 rw [List.getElem?_eq_getElem hx] at this
 exact ho en w base spare held m _ _ this
theorem HLd {o k : Nat} {cs : List Value} {l r : List A} (h : HL F N nx w l ((cs.drop o).take k)) (h' : HL F N nx w r (cs.drop (o + k))) : HL F N nx w (l ++ r) (cs.drop o) := by
 have e : cs.drop o = (cs.drop o).take k ++ cs.drop (o + k) := by
  rw [← List.drop_drop, List.take_append_drop]
 rw [e]
 exact h.append h'
theorem HLe {o : Nat} {cs : List Value} (h : cs.length = o) : HL F N nx w [] (cs.drop o) := by
 rw [List.drop_eq_nil_of_le (by omega)]
 exact HL.nil
end
end Go.Proofs.YtkknpeeccejppaaDoor
namespace Go.Proofs.YtkknpeeccejppaaDoor
open Go.RowKit
theorem loop_inv {X : Type} {next : X → X} {goes : X → Cnd} {ps : X → List Prop} (I : X → Prop) (m : X → Nat) (h : ∀ x, I x → (∀ p ∈ ps x, p) ∧ (cval (goes x) = true → I (next x) ∧ m (next x) < m x)) :
  ∀ (n : Nat) (x : X), I x → m x ≤ n → needX next goes ps n x ∧ I (iterX next goes n x) ∧ cval (goes (iterX next goes n x)) = false
 | 0, x, hi, hm => by
  obtain ⟨h1, h2⟩ := h x hi
  have hg : cval (goes x) = false := by
   cases hc : cval (goes x) with
   | false => rfl
   | true => have := (h2 hc).2; omega
  exact ⟨⟨h1, hg⟩, hi, hg⟩
 | n + 1, x, hi, hm => by
  obtain ⟨h1, h2⟩ := h x hi
  cases hc : cval (goes x) with
  | false =>
   have e : iterX next goes (n + 1) x = x := by
    show (bif cval (goes x) then _ else x) = x
    rw [hc]; rfl
   rw [e]
   exact ⟨⟨h1, fun hh => by rw [hc] at hh; cases hh⟩, hi, hc⟩
  | true =>
   have e : iterX next goes (n + 1) x = iterX next goes n (next x) := by
    show (bif cval (goes x) then _ else x) = _
    rw [hc]; rfl
   obtain ⟨h3, h4⟩ := h2 hc
   obtain ⟨g1, g2, g3⟩ := loop_inv I m h n (next x) h3 (by omega)
   rw [e]
   exact ⟨⟨h1, fun _ => g1⟩, g2, g3⟩
theorem i64_in {n : Int} (h : -9223372036854775808 ≤ n ∧ n ≤ 9223372036854775807) : IntKind.i64.wrap n = n := IntWalk.i64_in n h
end Go.Proofs.YtkknpeeccejppaaDoor
namespace Go.Proofs.YtkknpeeccejppaaDoor
open Go.RowKit
def math_bits_RotateLeft32_k1 (_a0 : Int) (a1 : Int) : Int := IntKind.u64.wrap (↑(BitVec.ofInt (64 : Nat) (IntKind.u64.wrap a1) &&& BitVec.ofInt (64 : Nat) (31 : Int)).toNat : Int)
def math_bits_RotateLeft32_k0 (a0 : Int) (a1 : Int) : Int := IntKind.u64.wrap ((32 : Int) - (math_bits_RotateLeft32_k1 a0 a1))
def math_bits_RotateLeft32_0 (a0 : Int) (a1 : Int) : Int := IntKind.u32.wrap (↑(BitVec.ofInt (32 : Nat) (IntKind.u32.wrap (a0 * (2 : Int) ^ min (math_bits_RotateLeft32_k1 a0 a1).toNat (32 : Nat))) ||| BitVec.ofInt (32 : Nat) (a0.fdiv ((2 : Int) ^ min (math_bits_RotateLeft32_k0 a0 a1).toNat (32 : Nat)))).toNat : Int)
def math_bits_RotateLeft32_r (a0 : Int) (a1 : Int) : A := .v (.int .u32 (math_bits_RotateLeft32_0 a0 a1))
def math_bits_RotateLeft32_o (_a0 : Int) (_a1 : Int) : Objs := []
def math_bits_RotateLeft32_ps (_a0 : Int) (_a1 : Int) : List Prop := []
theorem math_bits_RotateLeft32_ev (a0 : Int) (a1 : Int) : evF (envT C0 L0) 9 47 [valA .u32 a0, valA .i64 a1] 0 [] = some (1, math_bits_RotateLeft32_r a0 a1, 0, math_bits_RotateLeft32_o a0 a1, [((0 : Int) ≤ (math_bits_RotateLeft32_k1 a0 a1)), ((0 : Int) ≤ (math_bits_RotateLeft32_k0 a0 a1))]) := by kernel_rfl
theorem math_bits_RotateLeft32_c (a0 : Int) (a1 : Int) (_hp : ∀ p ∈ math_bits_RotateLeft32_ps a0 a1, p) : CallOk Tryd.prog 47 [valA .u32 a0, valA .i64 a1] 0 [] 1 (math_bits_RotateLeft32_r a0 a1) 0 (math_bits_RotateLeft32_o a0 a1) := by
 have n0 : ((0 : Int) ≤ (math_bits_RotateLeft32_k1 a0 a1)) := by intros; exact wrapU64 _
 have n1 : ((0 : Int) ≤ (math_bits_RotateLeft32_k0 a0 a1)) := by intros; exact wrapU64 _
 exact evF_ok (envP_ok C0_ok L0_ok) (math_bits_RotateLeft32_ev a0 a1) (needs_cons n0 (needs_cons n1 needs_nil))
def math_bits_RotateLeft32_t : List A → Nat → Objs → Option CRes := rowK [.t .u32, .t .i64] 0 math_bits_RotateLeft32_r math_bits_RotateLeft32_o math_bits_RotateLeft32_ps
theorem math_bits_RotateLeft32_tok : TOk Tryd.prog 47 math_bits_RotateLeft32_t := rowK_ok (ks := [.t .u32, .t .i64]) math_bits_RotateLeft32_c
noncomputable def Csh_1 := addC 47 math_bits_RotateLeft32_t C0
theorem Csh_1_ok : COk Tryd.prog Csh_1 := addC_ok math_bits_RotateLeft32_tok C0_ok
def r04_turn_k0 (_a0 : Int) (a1 : Int) : Int := IntKind.u64.wrap (IntKind.i64.wrap ((32 : Int) - a1))
def r04_turn_0 (a0 : Int) (a1 : Int) : Int := IntKind.u32.wrap (↑(BitVec.ofInt (32 : Nat) (a0.fdiv ((2 : Int) ^ min (IntKind.u64.wrap a1).toNat (32 : Nat))) ||| BitVec.ofInt (32 : Nat) (IntKind.u32.wrap (a0 * (2 : Int) ^ min (r04_turn_k0 a0 a1).toNat (32 : Nat)))).toNat : Int)
def r04_turn_r (a0 : Int) (a1 : Int) : A := .v (.int .u32 (r04_turn_0 a0 a1))
def r04_turn_o (_a0 : Int) (_a1 : Int) : Objs := []
def r04_turn_ps (_a0 : Int) (_a1 : Int) : List Prop := []
theorem r04_turn_ev (a0 : Int) (a1 : Int) : evF (envT Csh_1 L0) 9 35 [valA .u32 a0, valA .i64 a1] 0 [] = some (1, r04_turn_r a0 a1, 0, r04_turn_o a0 a1, [((0 : Int) ≤ IntKind.u64.wrap a1), ((0 : Int) ≤ (r04_turn_k0 a0 a1))]) := by kernel_rfl
theorem r04_turn_c (a0 : Int) (a1 : Int) (_hp : ∀ p ∈ r04_turn_ps a0 a1, p) : CallOk Tryd.prog 35 [valA .u32 a0, valA .i64 a1] 0 [] 1 (r04_turn_r a0 a1) 0 (r04_turn_o a0 a1) := by
 have n0 : ((0 : Int) ≤ IntKind.u64.wrap a1) := by intros; exact wrapU64 _
 have n1 : ((0 : Int) ≤ (r04_turn_k0 a0 a1)) := by intros; exact wrapU64 _
 exact evF_ok (envP_ok Csh_1_ok L0_ok) (r04_turn_ev a0 a1) (needs_cons n0 (needs_cons n1 needs_nil))
def r04_turn_t : List A → Nat → Objs → Option CRes := rowK [.t .u32, .t .i64] 0 r04_turn_r r04_turn_o r04_turn_ps
theorem r04_turn_tok : TOk Tryd.prog 35 r04_turn_t := rowK_ok (ks := [.t .u32, .t .i64]) r04_turn_c
noncomputable def Csh_2 := addC 35 r04_turn_t Csh_1
theorem Csh_2_ok : COk Tryd.prog Csh_2 := addC_ok r04_turn_tok Csh_1_ok
def r04_k_0 (a0 : Int) : Int := [(1116352408 : Int), (1899447441 : Int), (3049323471 : Int), (3921009573 : Int), (961987163 : Int), (1508970993 : Int), (2453635748 : Int), (2870763221 : Int), (3624381080 : Int), (310598401 : Int), (607225278 : Int), (1426881987 : Int), (1925078388 : Int), (2162078206 : Int), (2614888103 : Int), (3248222580 : Int), (3835390401 : Int), (4022224774 : Int), (264347078 : Int), (604807628 : Int), (770255983 : Int), (1249150122 : Int), (1555081692 : Int), (1996064986 : Int), (2554220882 : Int), (2821834349 : Int), (2952996808 : Int), (3210313671 : Int), (3336571891 : Int), (3584528711 : Int), (113926993 : Int), (338241895 : Int), (666307205 : Int), (773529912 : Int), (1294757372 : Int), (1396182291 : Int), (1695183700 : Int), (1986661051 : Int), (2177026350 : Int), (2456956037 : Int), (2730485921 : Int), (2820302411 : Int), (3259730800 : Int), (3345764771 : Int), (3516065817 : Int), (3600352804 : Int), (4094571909 : Int), (275423344 : Int), (430227734 : Int), (506948616 : Int), (659060556 : Int), (883997877 : Int), (958139571 : Int), (1322822218 : Int), (1537002063 : Int), (1747873779 : Int), (1955562222 : Int), (2024104815 : Int), (2227730452 : Int), (2361852424 : Int), (2428436474 : Int), (2756734187 : Int), (3204031479 : Int), (3329325298 : Int)].getD a0.toNat (dflt TC.u32)
def r04_k_r (a0 : Int) : A := .v (.int .u32 (r04_k_0 a0))
def r04_k_o (_a0 : Int) : Objs := []
def r04_k_ps (a0 : Int) : List Prop := [((0 : Int) ≤ a0 ∧ a0 < (64 : Int))]
theorem r04_k_ev (a0 : Int) : evF (envT Csh_2 L0) 9 36 [valA .i64 a0] 0 [] = some (1, r04_k_r a0, 0, r04_k_o a0, r04_k_ps a0) := by kernel_rfl
theorem r04_k_c (a0 : Int) (hp : ∀ p ∈ r04_k_ps a0, p) : CallOk Tryd.prog 36 [valA .i64 a0] 0 [] 1 (r04_k_r a0) 0 (r04_k_o a0) := evF_ok (envP_ok Csh_2_ok L0_ok) (r04_k_ev a0) hp
def r04_k_t : List A → Nat → Objs → Option CRes := rowK [.t .i64] 0 r04_k_r r04_k_o r04_k_ps
theorem r04_k_tok : TOk Tryd.prog 36 r04_k_t := rowK_ok (ks := [.t .i64]) r04_k_c
noncomputable def Csh_3 := addC 36 r04_k_t Csh_2
theorem Csh_3_ok : COk Tryd.prog Csh_3 := addC_ok r04_k_tok Csh_2_ok
noncomputable def Csh := Csh_3
theorem Csh_ok : COk Tryd.prog Csh := Csh_3_ok
end Go.Proofs.YtkknpeeccejppaaDoor
namespace Go.Proofs.YtkknpeeccejppaaDoor
open Go.RowKit
abbrev oB (x : BitVec 32) : Int := IntKind.u32.wrap (x.toNat : Int)
theorem ofI (x : BitVec 32) : BitVec.ofInt 32 (oB x) = x := by
 have h := x.isLt
 have e : oB x = (x.toNat : Int) := by
  show (x.toNat : Int) % 2 ^ 32 = _
  exact Int.emod_eq_of_lt (by omega) (by omega)
 rw [e]
 apply BitVec.eq_of_toNat_eq
 simp
theorem ch_bits (e f g : BitVec 32) : g ^^^ (e &&& (f ^^^ g)) = (e &&& f) ^^^ ((BitVec.ofInt 32 4294967295 ^^^ e) &&& g) := by
 have ho : (BitVec.ofInt 32 4294967295) = BitVec.allOnes 32 := by decide
 rw [ho]
 apply BitVec.eq_of_getLsbD_eq
 intro i hi
 simp only [BitVec.getLsbD_xor, BitVec.getLsbD_and, BitVec.getLsbD_allOnes, hi, decide_true]
 cases e.getLsbD i <;> cases f.getLsbD i <;> cases g.getLsbD i <;> rfl
theorem maj_bits (a b c : BitVec 32) : (a &&& b) ||| (c &&& (a ||| b)) = ((a &&& b) ^^^ (a &&& c)) ^^^ (b &&& c) := by
 apply BitVec.eq_of_getLsbD_eq
 intro i hi
 simp only [BitVec.getLsbD_xor, BitVec.getLsbD_and, BitVec.getLsbD_or]
 cases a.getLsbD i <;> cases b.getLsbD i <;> cases c.getLsbD i <;> rfl
theorem ch_eq (e f g : Int) : oB (BitVec.ofInt 32 g ^^^ BitVec.ofInt 32 (oB (BitVec.ofInt 32 e &&& BitVec.ofInt 32 (oB (BitVec.ofInt 32 f ^^^ BitVec.ofInt 32 g))))) =
  oB (BitVec.ofInt 32 (oB (BitVec.ofInt 32 e &&& BitVec.ofInt 32 f)) ^^^ BitVec.ofInt 32 (oB (BitVec.ofInt 32 (oB (BitVec.ofInt 32 4294967295 ^^^ BitVec.ofInt 32 e)) &&& BitVec.ofInt 32 g))) := by
 rw [ofI, ofI, ofI, ofI, ofI, ch_bits]
theorem maj_eq (a b c : Int) : oB (BitVec.ofInt 32 (oB (BitVec.ofInt 32 a &&& BitVec.ofInt 32 b)) ||| BitVec.ofInt 32 (oB (BitVec.ofInt 32 c &&& BitVec.ofInt 32 (oB (BitVec.ofInt 32 a ||| BitVec.ofInt 32 b))))) =
  oB (BitVec.ofInt 32 (oB (BitVec.ofInt 32 (oB (BitVec.ofInt 32 a &&& BitVec.ofInt 32 b)) ^^^ BitVec.ofInt 32 (oB (BitVec.ofInt 32 a &&& BitVec.ofInt 32 c)))) ^^^ BitVec.ofInt 32 (oB (BitVec.ofInt 32 b &&& BitVec.ofInt 32 c))) := by
 rw [ofI, ofI, ofI, ofI, ofI, ofI, maj_bits]
theorem rot_of {x a b : Int} (p q : Nat) (h1 : (math_bits_RotateLeft32_k1 x a).toNat = p) (h2 : (math_bits_RotateLeft32_k0 x a).toNat = q) (h3 : (IntKind.u64.wrap b).toNat = q) (h4 : (r04_turn_k0 x b).toNat = p) : math_bits_RotateLeft32_0 x a = r04_turn_0 x b := by
 unfold math_bits_RotateLeft32_0 r04_turn_0
 rw [h1, h2, h3, h4, BitVec.or_comm]
theorem rot2 (x : Int) : math_bits_RotateLeft32_0 x (-2) = r04_turn_0 x 2 := rot_of 30 2 (by kernel_rfl) (by kernel_rfl) (by kernel_rfl) (by kernel_rfl)
theorem rot6 (x : Int) : math_bits_RotateLeft32_0 x (-6) = r04_turn_0 x 6 := rot_of 26 6 (by kernel_rfl) (by kernel_rfl) (by kernel_rfl) (by kernel_rfl)
theorem rot7 (x : Int) : math_bits_RotateLeft32_0 x (-7) = r04_turn_0 x 7 := rot_of 25 7 (by kernel_rfl) (by kernel_rfl) (by kernel_rfl) (by kernel_rfl)
theorem rot11 (x : Int) : math_bits_RotateLeft32_0 x (-11) = r04_turn_0 x 11 := rot_of 21 11 (by kernel_rfl) (by kernel_rfl) (by kernel_rfl) (by kernel_rfl)
theorem rot13 (x : Int) : math_bits_RotateLeft32_0 x (-13) = r04_turn_0 x 13 := rot_of 19 13 (by kernel_rfl) (by kernel_rfl) (by kernel_rfl) (by kernel_rfl)
theorem rot17 (x : Int) : math_bits_RotateLeft32_0 x (-17) = r04_turn_0 x 17 := rot_of 15 17 (by kernel_rfl) (by kernel_rfl) (by kernel_rfl) (by kernel_rfl)
theorem rot18 (x : Int) : math_bits_RotateLeft32_0 x (-18) = r04_turn_0 x 18 := rot_of 14 18 (by kernel_rfl) (by kernel_rfl) (by kernel_rfl) (by kernel_rfl)
theorem rot19 (x : Int) : math_bits_RotateLeft32_0 x (-19) = r04_turn_0 x 19 := rot_of 13 19 (by kernel_rfl) (by kernel_rfl) (by kernel_rfl) (by kernel_rfl)
theorem rot22 (x : Int) : math_bits_RotateLeft32_0 x (-22) = r04_turn_0 x 22 := rot_of 10 22 (by kernel_rfl) (by kernel_rfl) (by kernel_rfl) (by kernel_rfl)
theorem rot25 (x : Int) : math_bits_RotateLeft32_0 x (-25) = r04_turn_0 x 25 := rot_of 7 25 (by kernel_rfl) (by kernel_rfl) (by kernel_rfl) (by kernel_rfl)
theorem iterX_sim {X Y : Type} {nx : X → X} {gx : X → Cnd} {ny : Y → Y} {gy : Y → Cnd} (φ : X → Y) (hg : ∀ x, cval (gx x) = cval (gy (φ x))) (hn : ∀ x, φ (nx x) = ny (φ x)) : ∀ (n : Nat) (x : X), φ (iterX nx gx n x) = iterX ny gy n (φ x)
 | 0, _ => rfl
 | n + 1, x => by
  show φ (bif cval (gx x) then iterX nx gx n (nx x) else x) = bif cval (gy (φ x)) then iterX ny gy n (ny (φ x)) else φ x
  rw [← hg x, ← hn x, ← iterX_sim φ hg hn n (nx x)]
  cases cval (gx x) <;> rfl
theorem callOk_av {P : Program} {f : FuncId} {args : List A} {nx k nx' : Nat} {o o' : Objs} {x : A} {c : TC} {n : Nat} {l : List (U c)} (j : Nat) (hj : args[j]? = some (.av c n l)) (h : l.length = n → CallOk P f args nx o k x nx' o') : CallOk P f args nx o k x nx' o' := fun F N R vs hh hl => by
 obtain ⟨v, _, hv⟩ := hl.get hj
 cases hv with
 | av h1 h2 => exact h h2 F N R vs hh hl
theorem getD_take {α : Type} {l : List α} {i j : Nat} {d : α} (h : j < i) : (l.take i).getD j d = l.getD j d := by
 rw [List.getD_eq_getElem?_getD, List.getD_eq_getElem?_getD, List.getElem?_take_of_lt h]
theorem take_set {α : Type} {l : List α} {i : Nat} {v : α} (h : i < l.length) : (l.set i v).take (i + 1) = l.take i ++ [v] := by
 rw [List.take_add_one, List.getElem?_set_self h, List.take_set_of_le (Nat.le_refl i)]
 rfl
end Go.Proofs.YtkknpeeccejppaaDoor
namespace Go.Proofs.YtkknpeeccejppaaDoor
open Go.RowKit
abbrev sha_spread_l0_X : Type := Int × (List UInt8) × (List Int)
def sha_spread_l0_T (x : sha_spread_l0_X) : St := ⟨86, 2, [(1, .own 0 0), (2, .own 1 0), (7, .v (.int .i64 x.1))], [(0, some (.rcd 109 [.av .u8 64 x.2.1])), (1, some (.rcd 118 [.av .u32 64 x.2.2]))]⟩
def sha_spread_l0_un : St → Option sha_spread_l0_X
 | ⟨86, 2, [(1, .own 0 0), (2, .own 1 0), (7, .v (.int .i64 z0))], [(0, some (.rcd 109 [.av .u8 64 z1])), (1, some (.rcd 118 [.av .u32 64 z2]))]⟩ => some (z0, z1, z2)
 | _ => none
theorem sha_spread_l0_unok : ∀ s x, sha_spread_l0_un s = some x → s = sha_spread_l0_T x := fun s x h => by
 unfold sha_spread_l0_un at h
 split at h
 ·cases h; rfl
 ·cases h
def sha_spread_l0_S : Shape := ⟨2, 2, [1, 2, 7], [], [(0, 0), (1, 1)], [0, 1], [], [0, 1]⟩
def sha_spread_l0_E : Entry := ⟨[.seg 1 [some (.u32, 64)]], [(0, 0), (1, 1)], [1, 2, 7], [0, 1]⟩
def sha_spread_l0_f_k4 (a0 : Int) (_a1 : List UInt8) (_a2 : List Int) : Int := IntKind.i64.wrap ((4 : Int) * a0)
def sha_spread_l0_f_k3 (a0 : Int) (_a1 : List UInt8) (_a2 : List Int) : Bool := !!decide (a0 < (16 : Int))
def sha_spread_l0_f_k2 (a0 : Int) (a1 : List UInt8) (a2 : List Int) : Int := IntKind.i64.wrap ((sha_spread_l0_f_k4 a0 a1 a2) + (3 : Int))
def sha_spread_l0_f_k1 (a0 : Int) (a1 : List UInt8) (a2 : List Int) : Int := IntKind.i64.wrap ((sha_spread_l0_f_k4 a0 a1 a2) + (2 : Int))
def sha_spread_l0_f_k0 (a0 : Int) (a1 : List UInt8) (a2 : List Int) : Int := IntKind.i64.wrap ((sha_spread_l0_f_k4 a0 a1 a2) + (1 : Int))
def sha_spread_l0_f_2 (a0 : Int) (a1 : List UInt8) (a2 : List Int) : List Int := a2.set a0.toNat (IntKind.u32.wrap (↑(BitVec.ofInt (32 : Nat) (IntKind.u32.wrap (↑(BitVec.ofInt (32 : Nat) (IntKind.u32.wrap (↑(BitVec.ofInt (32 : Nat) (IntKind.u32.wrap (IntKind.u32.wrap (↑(UInt8.toNat (a1.getD (sha_spread_l0_f_k4 a0 a1 a2).toNat (dflt TC.u8))) : Int) * (16777216 : Int))) ||| BitVec.ofInt (32 : Nat) (IntKind.u32.wrap (IntKind.u32.wrap (↑(UInt8.toNat (a1.getD (sha_spread_l0_f_k0 a0 a1 a2).toNat (dflt TC.u8))) : Int) * (65536 : Int)))).toNat : Int)) ||| BitVec.ofInt (32 : Nat) (IntKind.u32.wrap (IntKind.u32.wrap (↑(UInt8.toNat (a1.getD (sha_spread_l0_f_k1 a0 a1 a2).toNat (dflt TC.u8))) : Int) * (256 : Int)))).toNat : Int)) ||| BitVec.ofInt (32 : Nat) (IntKind.u32.wrap (↑(UInt8.toNat (a1.getD (sha_spread_l0_f_k2 a0 a1 a2).toNat (dflt TC.u8))) : Int))).toNat : Int))
def sha_spread_l0_next (x : sha_spread_l0_X) : sha_spread_l0_X := (IntKind.i64.wrap (x.1 + (1 : Int)), x.2.1, sha_spread_l0_f_2 x.1 x.2.1 x.2.2)
def sha_spread_l0_goes (x : sha_spread_l0_X) : Cnd := some ((sha_spread_l0_f_k3 x.1 x.2.1 x.2.2))
def sha_spread_l0_psA (x : sha_spread_l0_X) : List Prop := [((sha_spread_l0_f_k3 x.1 x.2.1 x.2.2) = true → (0 : Int) ≤ (sha_spread_l0_f_k4 x.1 x.2.1 x.2.2) ∧ (sha_spread_l0_f_k4 x.1 x.2.1 x.2.2) < (64 : Int)), ((sha_spread_l0_f_k3 x.1 x.2.1 x.2.2) = true → (sha_spread_l0_f_k4 x.1 x.2.1 x.2.2).toNat < (64 : Nat)), ((sha_spread_l0_f_k3 x.1 x.2.1 x.2.2) = true → (0 : Int) ≤ (sha_spread_l0_f_k0 x.1 x.2.1 x.2.2) ∧ (sha_spread_l0_f_k0 x.1 x.2.1 x.2.2) < (64 : Int)), ((sha_spread_l0_f_k3 x.1 x.2.1 x.2.2) = true → (sha_spread_l0_f_k0 x.1 x.2.1 x.2.2).toNat < (64 : Nat)), ((sha_spread_l0_f_k3 x.1 x.2.1 x.2.2) = true → (0 : Int) ≤ (sha_spread_l0_f_k1 x.1 x.2.1 x.2.2) ∧ (sha_spread_l0_f_k1 x.1 x.2.1 x.2.2) < (64 : Int)), ((sha_spread_l0_f_k3 x.1 x.2.1 x.2.2) = true → (sha_spread_l0_f_k1 x.1 x.2.1 x.2.2).toNat < (64 : Nat)), ((sha_spread_l0_f_k3 x.1 x.2.1 x.2.2) = true → (0 : Int) ≤ (sha_spread_l0_f_k2 x.1 x.2.1 x.2.2) ∧ (sha_spread_l0_f_k2 x.1 x.2.1 x.2.2) < (64 : Int)), ((sha_spread_l0_f_k3 x.1 x.2.1 x.2.2) = true → (sha_spread_l0_f_k2 x.1 x.2.1 x.2.2).toNat < (64 : Nat)), ((sha_spread_l0_f_k3 x.1 x.2.1 x.2.2) = true → (0 : Int) ≤ x.1 ∧ x.1 < (64 : Int)), ((sha_spread_l0_f_k3 x.1 x.2.1 x.2.2) = true → x.1.toNat < (64 : Nat))]
def sha_spread_l0_ps (x : sha_spread_l0_X) : List Prop := [((sha_spread_l0_f_k3 x.1 x.2.1 x.2.2) = true → (0 : Int) ≤ (sha_spread_l0_f_k4 x.1 x.2.1 x.2.2) ∧ (sha_spread_l0_f_k4 x.1 x.2.1 x.2.2) < (64 : Int)), ((sha_spread_l0_f_k3 x.1 x.2.1 x.2.2) = true → (0 : Int) ≤ (sha_spread_l0_f_k0 x.1 x.2.1 x.2.2) ∧ (sha_spread_l0_f_k0 x.1 x.2.1 x.2.2) < (64 : Int)), ((sha_spread_l0_f_k3 x.1 x.2.1 x.2.2) = true → (0 : Int) ≤ (sha_spread_l0_f_k1 x.1 x.2.1 x.2.2) ∧ (sha_spread_l0_f_k1 x.1 x.2.1 x.2.2) < (64 : Int)), ((sha_spread_l0_f_k3 x.1 x.2.1 x.2.2) = true → (0 : Int) ≤ (sha_spread_l0_f_k2 x.1 x.2.1 x.2.2) ∧ (sha_spread_l0_f_k2 x.1 x.2.1 x.2.2) < (64 : Int)), ((sha_spread_l0_f_k3 x.1 x.2.1 x.2.2) = true → (0 : Int) ≤ x.1 ∧ x.1 < (64 : Int))]
def sha_spread_l0_outs (x : sha_spread_l0_X) : Outs := [(some 0, some (!decide (x.1 < (16 : Int))), ⟨86, 2, [], [(0, some (.rcd 109 [.av .u8 64 x.2.1])), (1, some (.rcd 118 [.av .u32 64 x.2.2]))]⟩)]
def sha_spread_l0_fuel (x : sha_spread_l0_X) : Nat := ((16 : Int) - x.1).toNat
def sha_spread_l0_run (x : sha_spread_l0_X) : sha_spread_l0_X := iterX sha_spread_l0_next sha_spread_l0_goes (sha_spread_l0_fuel x) x
theorem sha_spread_l0_ev (a0 : Int) (a1 : List UInt8) (a2 : List Int) : roundE (envT Csh L0) 9 (loopAt Tryd.prog 46 0) sha_spread_l0_S (sha_spread_l0_T (a0, a1, a2)) = some (sha_spread_l0_psA (a0, a1, a2), sha_spread_l0_outs (a0, a1, a2), sha_spread_l0_goes (a0, a1, a2), sha_spread_l0_T (sha_spread_l0_next (a0, a1, a2))) := by kernel_rfl
theorem sha_spread_l0_hA (a0 : Int) (a1 : List UInt8) (a2 : List Int) (hp : ∀ p ∈ sha_spread_l0_ps (a0, a1, a2), p) : ∀ p ∈ sha_spread_l0_psA (a0, a1, a2), p := by
 have n0 : ((sha_spread_l0_f_k3 a0 a1 a2) = true → (0 : Int) ≤ (sha_spread_l0_f_k4 a0 a1 a2) ∧ (sha_spread_l0_f_k4 a0 a1 a2) < (64 : Int)) := N0 hp
 have n1 : ((sha_spread_l0_f_k3 a0 a1 a2) = true → (sha_spread_l0_f_k4 a0 a1 a2).toNat < (64 : Nat)) := by intro h0; have g := n0 h0; omega
 have n2 : ((sha_spread_l0_f_k3 a0 a1 a2) = true → (0 : Int) ≤ (sha_spread_l0_f_k0 a0 a1 a2) ∧ (sha_spread_l0_f_k0 a0 a1 a2) < (64 : Int)) := N0 (N1 hp)
 have n3 : ((sha_spread_l0_f_k3 a0 a1 a2) = true → (sha_spread_l0_f_k0 a0 a1 a2).toNat < (64 : Nat)) := by intro h0; have g := n2 h0; omega
 have n4 : ((sha_spread_l0_f_k3 a0 a1 a2) = true → (0 : Int) ≤ (sha_spread_l0_f_k1 a0 a1 a2) ∧ (sha_spread_l0_f_k1 a0 a1 a2) < (64 : Int)) := N0 (N1 (N1 hp))
 have n5 : ((sha_spread_l0_f_k3 a0 a1 a2) = true → (sha_spread_l0_f_k1 a0 a1 a2).toNat < (64 : Nat)) := by intro h0; have g := n4 h0; omega
 have n6 : ((sha_spread_l0_f_k3 a0 a1 a2) = true → (0 : Int) ≤ (sha_spread_l0_f_k2 a0 a1 a2) ∧ (sha_spread_l0_f_k2 a0 a1 a2) < (64 : Int)) := N0 (N1 (N1 (N1 hp)))
 have n7 : ((sha_spread_l0_f_k3 a0 a1 a2) = true → (sha_spread_l0_f_k2 a0 a1 a2).toNat < (64 : Nat)) := by intro h0; have g := n6 h0; omega
 have n8 : ((sha_spread_l0_f_k3 a0 a1 a2) = true → (0 : Int) ≤ a0 ∧ a0 < (64 : Int)) := N0 (N1 (N1 (N1 (N1 hp))))
 have n9 : ((sha_spread_l0_f_k3 a0 a1 a2) = true → a0.toNat < (64 : Nat)) := by intro h0; have g := n8 h0; omega
 exact (needs_cons n0 (needs_cons n1 (needs_cons n2 (needs_cons n3 (needs_cons n4 (needs_cons n5 (needs_cons n6 (needs_cons n7 (needs_cons n8 (needs_cons n9 needs_nil))))))))))
noncomputable def sha_spread_l0_row := rowL (envT Csh L0) (loopAt Tryd.prog 46 0) sha_spread_l0_S sha_spread_l0_E sha_spread_l0_un sha_spread_l0_fuel sha_spread_l0_next sha_spread_l0_goes sha_spread_l0_ps sha_spread_l0_outs
theorem sha_spread_l0_rok : ∀ s b ps outs, sha_spread_l0_row s = some (b, ps, outs) → Wf s ⟨ps, outs, none⟩ ∧ LoopOk (envT C0 L0) b s ps outs :=
 rowP_ok (T := sha_spread_l0_T) Csh_ok L0_ok (u := 9) (by kernel_rfl) (by decide) (fun ⟨a0, a1, a2⟩ => sha_spread_l0_ev a0 a1 a2) (fun ⟨a0, a1, a2⟩ => sha_spread_l0_hA a0 a1 a2) sha_spread_l0_unok (fun _ => okOuts_ok (n := 86) rfl) fun _ _ => rfl
noncomputable def sha_spread_l0_L := addLp 0 sha_spread_l0_row L0
theorem sha_spread_l0_Lok : LpOk sha_spread_l0_L := addLp_ok sha_spread_l0_rok L0_ok
abbrev sha_spread_l2_X : Type := Int × (List Int)
def sha_spread_l2_T (x : sha_spread_l2_X) : St := ⟨86, 2, [(2, .own 1 0), (4, .v (.int .i64 x.1))], [(1, some (.rcd 118 [.av .u32 64 x.2]))]⟩
def sha_spread_l2_un : St → Option sha_spread_l2_X
 | ⟨86, 2, [(2, .own 1 0), (4, .v (.int .i64 z0))], [(1, some (.rcd 118 [.av .u32 64 z1]))]⟩ => some (z0, z1)
 | _ => none
theorem sha_spread_l2_unok : ∀ s x, sha_spread_l2_un s = some x → s = sha_spread_l2_T x := fun s x h => by
 unfold sha_spread_l2_un at h
 split at h
 ·cases h; rfl
 ·cases h
def sha_spread_l2_S : Shape := ⟨2, 2, [2, 4], [], [(1, 1)], [1], [], [1]⟩
def sha_spread_l2_E : Entry := ⟨[], [(1, 1)], [2, 4], [1]⟩
def sha_spread_l2_f_k4 (a0 : Int) (_a1 : List Int) : Int := IntKind.i64.wrap (a0 - (2 : Int))
def sha_spread_l2_f_k3 (a0 : Int) (_a1 : List Int) : Int := IntKind.i64.wrap (a0 - (7 : Int))
def sha_spread_l2_f_k2 (a0 : Int) (_a1 : List Int) : Int := IntKind.i64.wrap (a0 - (15 : Int))
def sha_spread_l2_f_k1 (a0 : Int) (_a1 : List Int) : Int := IntKind.i64.wrap (a0 - (16 : Int))
def sha_spread_l2_f_k0 (a0 : Int) (_a1 : List Int) : Bool := !!decide (a0 < (64 : Int))
def sha_spread_l2_f_1 (a0 : Int) (a1 : List Int) : List Int := a1.set a0.toNat (IntKind.u32.wrap (IntKind.u32.wrap (IntKind.u32.wrap (a1.getD (sha_spread_l2_f_k1 a0 a1).toNat (dflt TC.u32) + IntKind.u32.wrap (↑(BitVec.ofInt (32 : Nat) (IntKind.u32.wrap (↑(BitVec.ofInt (32 : Nat) (math_bits_RotateLeft32_0 (a1.getD (sha_spread_l2_f_k2 a0 a1).toNat (dflt TC.u32)) (-7 : Int)) ^^^ BitVec.ofInt (32 : Nat) (math_bits_RotateLeft32_0 (a1.getD (sha_spread_l2_f_k2 a0 a1).toNat (dflt TC.u32)) (-18 : Int))).toNat : Int)) ^^^ BitVec.ofInt (32 : Nat) (Int.fdiv (a1.getD (sha_spread_l2_f_k2 a0 a1).toNat (dflt TC.u32)) (8 : Int))).toNat : Int)) + a1.getD (sha_spread_l2_f_k3 a0 a1).toNat (dflt TC.u32)) + IntKind.u32.wrap (↑(BitVec.ofInt (32 : Nat) (IntKind.u32.wrap (↑(BitVec.ofInt (32 : Nat) (math_bits_RotateLeft32_0 (a1.getD (sha_spread_l2_f_k4 a0 a1).toNat (dflt TC.u32)) (-17 : Int)) ^^^ BitVec.ofInt (32 : Nat) (math_bits_RotateLeft32_0 (a1.getD (sha_spread_l2_f_k4 a0 a1).toNat (dflt TC.u32)) (-19 : Int))).toNat : Int)) ^^^ BitVec.ofInt (32 : Nat) (Int.fdiv (a1.getD (sha_spread_l2_f_k4 a0 a1).toNat (dflt TC.u32)) (1024 : Int))).toNat : Int)))
def sha_spread_l2_next (x : sha_spread_l2_X) : sha_spread_l2_X := (IntKind.i64.wrap (x.1 + (1 : Int)), sha_spread_l2_f_1 x.1 x.2)
def sha_spread_l2_goes (x : sha_spread_l2_X) : Cnd := some ((sha_spread_l2_f_k0 x.1 x.2))
def sha_spread_l2_psA (x : sha_spread_l2_X) : List Prop := [((sha_spread_l2_f_k0 x.1 x.2) = true → (0 : Int) ≤ (sha_spread_l2_f_k2 x.1 x.2) ∧ (sha_spread_l2_f_k2 x.1 x.2) < (64 : Int)), ((sha_spread_l2_f_k0 x.1 x.2) = true → (sha_spread_l2_f_k2 x.1 x.2).toNat < (64 : Nat)), ((sha_spread_l2_f_k0 x.1 x.2) = true → (0 : Int) ≤ (sha_spread_l2_f_k4 x.1 x.2) ∧ (sha_spread_l2_f_k4 x.1 x.2) < (64 : Int)), ((sha_spread_l2_f_k0 x.1 x.2) = true → (sha_spread_l2_f_k4 x.1 x.2).toNat < (64 : Nat)), ((sha_spread_l2_f_k0 x.1 x.2) = true → (0 : Int) ≤ (sha_spread_l2_f_k1 x.1 x.2) ∧ (sha_spread_l2_f_k1 x.1 x.2) < (64 : Int)), ((sha_spread_l2_f_k0 x.1 x.2) = true → (sha_spread_l2_f_k1 x.1 x.2).toNat < (64 : Nat)), ((sha_spread_l2_f_k0 x.1 x.2) = true → (0 : Int) ≤ (sha_spread_l2_f_k3 x.1 x.2) ∧ (sha_spread_l2_f_k3 x.1 x.2) < (64 : Int)), ((sha_spread_l2_f_k0 x.1 x.2) = true → (sha_spread_l2_f_k3 x.1 x.2).toNat < (64 : Nat)), ((sha_spread_l2_f_k0 x.1 x.2) = true → (0 : Int) ≤ x.1 ∧ x.1 < (64 : Int)), ((sha_spread_l2_f_k0 x.1 x.2) = true → x.1.toNat < (64 : Nat))]
def sha_spread_l2_ps (x : sha_spread_l2_X) : List Prop := [((sha_spread_l2_f_k0 x.1 x.2) = true → (0 : Int) ≤ (sha_spread_l2_f_k2 x.1 x.2) ∧ (sha_spread_l2_f_k2 x.1 x.2) < (64 : Int)), ((sha_spread_l2_f_k0 x.1 x.2) = true → (0 : Int) ≤ (sha_spread_l2_f_k4 x.1 x.2) ∧ (sha_spread_l2_f_k4 x.1 x.2) < (64 : Int)), ((sha_spread_l2_f_k0 x.1 x.2) = true → (0 : Int) ≤ (sha_spread_l2_f_k1 x.1 x.2) ∧ (sha_spread_l2_f_k1 x.1 x.2) < (64 : Int)), ((sha_spread_l2_f_k0 x.1 x.2) = true → (0 : Int) ≤ (sha_spread_l2_f_k3 x.1 x.2) ∧ (sha_spread_l2_f_k3 x.1 x.2) < (64 : Int)), ((sha_spread_l2_f_k0 x.1 x.2) = true → (0 : Int) ≤ x.1 ∧ x.1 < (64 : Int))]
def sha_spread_l2_outs (x : sha_spread_l2_X) : Outs := [(some 2, some (!decide (x.1 < (64 : Int))), ⟨86, 2, [], [(1, some (.rcd 118 [.av .u32 64 x.2]))]⟩)]
def sha_spread_l2_fuel (x : sha_spread_l2_X) : Nat := ((64 : Int) - x.1).toNat
def sha_spread_l2_run (x : sha_spread_l2_X) : sha_spread_l2_X := iterX sha_spread_l2_next sha_spread_l2_goes (sha_spread_l2_fuel x) x
theorem sha_spread_l2_ev (a0 : Int) (a1 : List Int) : roundE (envT Csh sha_spread_l0_L) 9 (loopAt Tryd.prog 46 2) sha_spread_l2_S (sha_spread_l2_T (a0, a1)) = some (sha_spread_l2_psA (a0, a1), sha_spread_l2_outs (a0, a1), sha_spread_l2_goes (a0, a1), sha_spread_l2_T (sha_spread_l2_next (a0, a1))) := by kernel_rfl
theorem sha_spread_l2_hA (a0 : Int) (a1 : List Int) (hp : ∀ p ∈ sha_spread_l2_ps (a0, a1), p) : ∀ p ∈ sha_spread_l2_psA (a0, a1), p := by
 have n0 : ((sha_spread_l2_f_k0 a0 a1) = true → (0 : Int) ≤ (sha_spread_l2_f_k2 a0 a1) ∧ (sha_spread_l2_f_k2 a0 a1) < (64 : Int)) := N0 hp
 have n1 : ((sha_spread_l2_f_k0 a0 a1) = true → (sha_spread_l2_f_k2 a0 a1).toNat < (64 : Nat)) := by intro h0; have g := n0 h0; omega
 have n2 : ((sha_spread_l2_f_k0 a0 a1) = true → (0 : Int) ≤ (sha_spread_l2_f_k4 a0 a1) ∧ (sha_spread_l2_f_k4 a0 a1) < (64 : Int)) := N0 (N1 hp)
 have n3 : ((sha_spread_l2_f_k0 a0 a1) = true → (sha_spread_l2_f_k4 a0 a1).toNat < (64 : Nat)) := by intro h0; have g := n2 h0; omega
 have n4 : ((sha_spread_l2_f_k0 a0 a1) = true → (0 : Int) ≤ (sha_spread_l2_f_k1 a0 a1) ∧ (sha_spread_l2_f_k1 a0 a1) < (64 : Int)) := N0 (N1 (N1 hp))
 have n5 : ((sha_spread_l2_f_k0 a0 a1) = true → (sha_spread_l2_f_k1 a0 a1).toNat < (64 : Nat)) := by intro h0; have g := n4 h0; omega
 have n6 : ((sha_spread_l2_f_k0 a0 a1) = true → (0 : Int) ≤ (sha_spread_l2_f_k3 a0 a1) ∧ (sha_spread_l2_f_k3 a0 a1) < (64 : Int)) := N0 (N1 (N1 (N1 hp)))
 have n7 : ((sha_spread_l2_f_k0 a0 a1) = true → (sha_spread_l2_f_k3 a0 a1).toNat < (64 : Nat)) := by intro h0; have g := n6 h0; omega
 have n8 : ((sha_spread_l2_f_k0 a0 a1) = true → (0 : Int) ≤ a0 ∧ a0 < (64 : Int)) := N0 (N1 (N1 (N1 (N1 hp))))
 have n9 : ((sha_spread_l2_f_k0 a0 a1) = true → a0.toNat < (64 : Nat)) := by intro h0; have g := n8 h0; omega
 exact (needs_cons n0 (needs_cons n1 (needs_cons n2 (needs_cons n3 (needs_cons n4 (needs_cons n5 (needs_cons n6 (needs_cons n7 (needs_cons n8 (needs_cons n9 needs_nil))))))))))
noncomputable def sha_spread_l2_row := rowL (envT Csh sha_spread_l0_L) (loopAt Tryd.prog 46 2) sha_spread_l2_S sha_spread_l2_E sha_spread_l2_un sha_spread_l2_fuel sha_spread_l2_next sha_spread_l2_goes sha_spread_l2_ps sha_spread_l2_outs
theorem sha_spread_l2_rok : ∀ s b ps outs, sha_spread_l2_row s = some (b, ps, outs) → Wf s ⟨ps, outs, none⟩ ∧ LoopOk (envT C0 L0) b s ps outs :=
 rowP_ok (T := sha_spread_l2_T) Csh_ok sha_spread_l0_Lok (u := 9) (by kernel_rfl) (by decide) (fun ⟨a0, a1⟩ => sha_spread_l2_ev a0 a1) (fun ⟨a0, a1⟩ => sha_spread_l2_hA a0 a1) sha_spread_l2_unok (fun _ => okOuts_ok (n := 86) rfl) fun _ _ => rfl
noncomputable def sha_spread_l2_L := addLp 2 sha_spread_l2_row sha_spread_l0_L
theorem sha_spread_l2_Lok : LpOk sha_spread_l2_L := addLp_ok sha_spread_l2_rok sha_spread_l0_Lok
def sha_spread_0 (a0 : List UInt8) : List Int := (sha_spread_l2_run ((16 : Int), (sha_spread_l0_run ((0 : Int), a0, [(0 : Int), (0 : Int), (0 : Int), (0 : Int), (0 : Int), (0 : Int), (0 : Int), (0 : Int), (0 : Int), (0 : Int), (0 : Int), (0 : Int), (0 : Int), (0 : Int), (0 : Int), (0 : Int), (0 : Int), (0 : Int), (0 : Int), (0 : Int), (0 : Int), (0 : Int), (0 : Int), (0 : Int), (0 : Int), (0 : Int), (0 : Int), (0 : Int), (0 : Int), (0 : Int), (0 : Int), (0 : Int), (0 : Int), (0 : Int), (0 : Int), (0 : Int), (0 : Int), (0 : Int), (0 : Int), (0 : Int), (0 : Int), (0 : Int), (0 : Int), (0 : Int), (0 : Int), (0 : Int), (0 : Int), (0 : Int), (0 : Int), (0 : Int), (0 : Int), (0 : Int), (0 : Int), (0 : Int), (0 : Int), (0 : Int), (0 : Int), (0 : Int), (0 : Int), (0 : Int), (0 : Int), (0 : Int), (0 : Int), (0 : Int)])).snd.snd)).snd
def sha_spread_r (a0 : List UInt8) : A := .av .u32 64 (sha_spread_0 a0)
def sha_spread_o (_a0 : List UInt8) : Objs := []
def sha_spread_ps (a0 : List UInt8) : List Prop := [(needX sha_spread_l0_next sha_spread_l0_goes sha_spread_l0_ps (16 : Nat) ((0 : Int), a0, [(0 : Int), (0 : Int), (0 : Int), (0 : Int), (0 : Int), (0 : Int), (0 : Int), (0 : Int), (0 : Int), (0 : Int), (0 : Int), (0 : Int), (0 : Int), (0 : Int), (0 : Int), (0 : Int), (0 : Int), (0 : Int), (0 : Int), (0 : Int), (0 : Int), (0 : Int), (0 : Int), (0 : Int), (0 : Int), (0 : Int), (0 : Int), (0 : Int), (0 : Int), (0 : Int), (0 : Int), (0 : Int), (0 : Int), (0 : Int), (0 : Int), (0 : Int), (0 : Int), (0 : Int), (0 : Int), (0 : Int), (0 : Int), (0 : Int), (0 : Int), (0 : Int), (0 : Int), (0 : Int), (0 : Int), (0 : Int), (0 : Int), (0 : Int), (0 : Int), (0 : Int), (0 : Int), (0 : Int), (0 : Int), (0 : Int), (0 : Int), (0 : Int), (0 : Int), (0 : Int), (0 : Int), (0 : Int), (0 : Int), (0 : Int)])), (needX sha_spread_l2_next sha_spread_l2_goes sha_spread_l2_ps (48 : Nat) ((16 : Int), (sha_spread_l0_run ((0 : Int), a0, [(0 : Int), (0 : Int), (0 : Int), (0 : Int), (0 : Int), (0 : Int), (0 : Int), (0 : Int), (0 : Int), (0 : Int), (0 : Int), (0 : Int), (0 : Int), (0 : Int), (0 : Int), (0 : Int), (0 : Int), (0 : Int), (0 : Int), (0 : Int), (0 : Int), (0 : Int), (0 : Int), (0 : Int), (0 : Int), (0 : Int), (0 : Int), (0 : Int), (0 : Int), (0 : Int), (0 : Int), (0 : Int), (0 : Int), (0 : Int), (0 : Int), (0 : Int), (0 : Int), (0 : Int), (0 : Int), (0 : Int), (0 : Int), (0 : Int), (0 : Int), (0 : Int), (0 : Int), (0 : Int), (0 : Int), (0 : Int), (0 : Int), (0 : Int), (0 : Int), (0 : Int), (0 : Int), (0 : Int), (0 : Int), (0 : Int), (0 : Int), (0 : Int), (0 : Int), (0 : Int), (0 : Int), (0 : Int), (0 : Int), (0 : Int)])).snd.snd))]
theorem sha_spread_ev (a0 : List UInt8) : evF (envT Csh sha_spread_l2_L) 9 46 [.av .u8 64 a0] 0 [] = some (1, sha_spread_r a0, 0, sha_spread_o a0, [(loopAt Tryd.prog (46 : FuncId) (0 : Nat) = loopAt Tryd.prog (46 : FuncId) (0 : Nat)), (needX sha_spread_l0_next sha_spread_l0_goes sha_spread_l0_ps (16 : Nat) ((0 : Int), a0, [(0 : Int), (0 : Int), (0 : Int), (0 : Int), (0 : Int), (0 : Int), (0 : Int), (0 : Int), (0 : Int), (0 : Int), (0 : Int), (0 : Int), (0 : Int), (0 : Int), (0 : Int), (0 : Int), (0 : Int), (0 : Int), (0 : Int), (0 : Int), (0 : Int), (0 : Int), (0 : Int), (0 : Int), (0 : Int), (0 : Int), (0 : Int), (0 : Int), (0 : Int), (0 : Int), (0 : Int), (0 : Int), (0 : Int), (0 : Int), (0 : Int), (0 : Int), (0 : Int), (0 : Int), (0 : Int), (0 : Int), (0 : Int), (0 : Int), (0 : Int), (0 : Int), (0 : Int), (0 : Int), (0 : Int), (0 : Int), (0 : Int), (0 : Int), (0 : Int), (0 : Int), (0 : Int), (0 : Int), (0 : Int), (0 : Int), (0 : Int), (0 : Int), (0 : Int), (0 : Int), (0 : Int), (0 : Int), (0 : Int), (0 : Int)])), (loopAt Tryd.prog (46 : FuncId) (2 : Nat) = loopAt Tryd.prog (46 : FuncId) (2 : Nat)), (needX sha_spread_l2_next sha_spread_l2_goes sha_spread_l2_ps (48 : Nat) ((16 : Int), (sha_spread_l0_run ((0 : Int), a0, [(0 : Int), (0 : Int), (0 : Int), (0 : Int), (0 : Int), (0 : Int), (0 : Int), (0 : Int), (0 : Int), (0 : Int), (0 : Int), (0 : Int), (0 : Int), (0 : Int), (0 : Int), (0 : Int), (0 : Int), (0 : Int), (0 : Int), (0 : Int), (0 : Int), (0 : Int), (0 : Int), (0 : Int), (0 : Int), (0 : Int), (0 : Int), (0 : Int), (0 : Int), (0 : Int), (0 : Int), (0 : Int), (0 : Int), (0 : Int), (0 : Int), (0 : Int), (0 : Int), (0 : Int), (0 : Int), (0 : Int), (0 : Int), (0 : Int), (0 : Int), (0 : Int), (0 : Int), (0 : Int), (0 : Int), (0 : Int), (0 : Int), (0 : Int), (0 : Int), (0 : Int), (0 : Int), (0 : Int), (0 : Int), (0 : Int), (0 : Int), (0 : Int), (0 : Int), (0 : Int), (0 : Int), (0 : Int), (0 : Int), (0 : Int)])).snd.snd))]) := by kernel_rfl
theorem sha_spread_c (a0 : List UInt8) (hp : ∀ p ∈ sha_spread_ps a0, p) : CallOk Tryd.prog 46 [.av .u8 64 a0] 0 [] 1 (sha_spread_r a0) 0 (sha_spread_o a0) := by
 have n1 := N0 hp
 have n3 := N0 (N1 hp)
 exact evF_ok (envP_ok Csh_ok sha_spread_l2_Lok) (sha_spread_ev a0) (needs_cons rfl (needs_cons n1 (needs_cons rfl (needs_cons n3 needs_nil))))
def sha_spread_t : List A → Nat → Objs → Option CRes := rowK [.a .u8 64] 0 sha_spread_r sha_spread_o sha_spread_ps
theorem sha_spread_tok : TOk Tryd.prog 46 sha_spread_t := rowK_ok (ks := [.a .u8 64]) sha_spread_c
noncomputable def Css_1 := addC 46 sha_spread_t Csh
theorem Css_1_ok : COk Tryd.prog Css_1 := addC_ok sha_spread_tok Csh_ok
noncomputable def Css := Css_1
theorem Css_ok : COk Tryd.prog Css := Css_1_ok
end Go.Proofs.YtkknpeeccejppaaDoor
namespace Go.Proofs.YtkknpeeccejppaaDoor
open Go.RowKit
abbrev r04_words_l0_X : Type := (List UInt8) × Int × (List Int)
def r04_words_l0_T (x : r04_words_l0_X) : St := ⟨92, 2, [(0, .sl .u8 x.1), (3, .sq 1), (4, .v (.int .i64 x.2.1))], [(1, some (.arr 66 1 (.ty .u32 x.2.2)))]⟩
def r04_words_l0_un : St → Option r04_words_l0_X
 | ⟨92, 2, [(0, .sl .u8 z0), (3, .sq 1), (4, .v (.int .i64 z1))], [(1, some (.arr 66 1 (.ty .u32 z2)))]⟩ => some (z0, z1, z2)
 | _ => none
theorem r04_words_l0_unok : ∀ s x, r04_words_l0_un s = some x → s = r04_words_l0_T x := fun s x h => by
 unfold r04_words_l0_un at h
 split at h
 ·cases h; rfl
 ·cases h
def r04_words_l0_S : Shape := ⟨1, 2, [0, 3, 4], [], [(3, 1)], [3], [3], [1]⟩
def r04_words_l0_E : Entry := ⟨[.nil 3 66 .u32], [(0, 1)], [0, 3, 4], [0]⟩
def r04_words_l0_f_k9 (_a0 : List UInt8) (a1 : Int) (_a2 : List Int) : Int := IntKind.i64.wrap (a1 - (2 : Int))
def r04_words_l0_f_k8 (_a0 : List UInt8) (a1 : Int) (_a2 : List Int) : Int := IntKind.i64.wrap (a1 - (7 : Int))
def r04_words_l0_f_k7 (_a0 : List UInt8) (a1 : Int) (_a2 : List Int) : Int := IntKind.i64.wrap (a1 - (15 : Int))
def r04_words_l0_f_k6 (_a0 : List UInt8) (a1 : Int) (_a2 : List Int) : Int := IntKind.i64.wrap (a1 - (16 : Int))
def r04_words_l0_f_k5 (_a0 : List UInt8) (a1 : Int) (_a2 : List Int) : Int := IntKind.i64.wrap ((4 : Int) * a1)
def r04_words_l0_f_k4 (_a0 : List UInt8) (a1 : Int) (_a2 : List Int) : Bool := decide (a1 < (16 : Int))
def r04_words_l0_f_k3 (_a0 : List UInt8) (a1 : Int) (_a2 : List Int) : Bool := !!decide (a1 < (64 : Int))
def r04_words_l0_f_k2 (a0 : List UInt8) (a1 : Int) (a2 : List Int) : Int := IntKind.i64.wrap ((r04_words_l0_f_k5 a0 a1 a2) + (3 : Int))
def r04_words_l0_f_k1 (a0 : List UInt8) (a1 : Int) (a2 : List Int) : Int := IntKind.i64.wrap ((r04_words_l0_f_k5 a0 a1 a2) + (2 : Int))
def r04_words_l0_f_k0 (a0 : List UInt8) (a1 : Int) (a2 : List Int) : Int := IntKind.i64.wrap ((r04_words_l0_f_k5 a0 a1 a2) + (1 : Int))
def r04_words_l0_f_2 (a0 : List UInt8) (a1 : Int) (a2 : List Int) : List Int := bif (r04_words_l0_f_k4 a0 a1 a2) then a2 ++ [IntKind.u32.wrap (↑(BitVec.ofInt (32 : Nat) (IntKind.u32.wrap (↑(BitVec.ofInt (32 : Nat) (IntKind.u32.wrap (↑(BitVec.ofInt (32 : Nat) (IntKind.u32.wrap (IntKind.u32.wrap (↑(UInt8.toNat (a0.getD (r04_words_l0_f_k5 a0 a1 a2).toNat (dflt TC.u8))) : Int) * (16777216 : Int))) ||| BitVec.ofInt (32 : Nat) (IntKind.u32.wrap (IntKind.u32.wrap (↑(UInt8.toNat (a0.getD (r04_words_l0_f_k0 a0 a1 a2).toNat (dflt TC.u8))) : Int) * (65536 : Int)))).toNat : Int)) ||| BitVec.ofInt (32 : Nat) (IntKind.u32.wrap (IntKind.u32.wrap (↑(UInt8.toNat (a0.getD (r04_words_l0_f_k1 a0 a1 a2).toNat (dflt TC.u8))) : Int) * (256 : Int)))).toNat : Int)) ||| BitVec.ofInt (32 : Nat) (IntKind.u32.wrap (↑(UInt8.toNat (a0.getD (r04_words_l0_f_k2 a0 a1 a2).toNat (dflt TC.u8))) : Int))).toNat : Int)] else a2 ++ [IntKind.u32.wrap (IntKind.u32.wrap (IntKind.u32.wrap (a2.getD (r04_words_l0_f_k6 a0 a1 a2).toNat (dflt TC.u32) + IntKind.u32.wrap (↑(BitVec.ofInt (32 : Nat) (IntKind.u32.wrap (↑(BitVec.ofInt (32 : Nat) (r04_turn_0 (a2.getD (r04_words_l0_f_k7 a0 a1 a2).toNat (dflt TC.u32)) (7 : Int)) ^^^ BitVec.ofInt (32 : Nat) (r04_turn_0 (a2.getD (r04_words_l0_f_k7 a0 a1 a2).toNat (dflt TC.u32)) (18 : Int))).toNat : Int)) ^^^ BitVec.ofInt (32 : Nat) (Int.fdiv (a2.getD (r04_words_l0_f_k7 a0 a1 a2).toNat (dflt TC.u32)) (8 : Int))).toNat : Int)) + a2.getD (r04_words_l0_f_k8 a0 a1 a2).toNat (dflt TC.u32)) + IntKind.u32.wrap (↑(BitVec.ofInt (32 : Nat) (IntKind.u32.wrap (↑(BitVec.ofInt (32 : Nat) (r04_turn_0 (a2.getD (r04_words_l0_f_k9 a0 a1 a2).toNat (dflt TC.u32)) (17 : Int)) ^^^ BitVec.ofInt (32 : Nat) (r04_turn_0 (a2.getD (r04_words_l0_f_k9 a0 a1 a2).toNat (dflt TC.u32)) (19 : Int))).toNat : Int)) ^^^ BitVec.ofInt (32 : Nat) (Int.fdiv (a2.getD (r04_words_l0_f_k9 a0 a1 a2).toNat (dflt TC.u32)) (1024 : Int))).toNat : Int))]
def r04_words_l0_next (x : r04_words_l0_X) : r04_words_l0_X := (x.1, IntKind.i64.wrap (x.2.1 + (1 : Int)), r04_words_l0_f_2 x.1 x.2.1 x.2.2)
def r04_words_l0_goes (x : r04_words_l0_X) : Cnd := some ((r04_words_l0_f_k3 x.1 x.2.1 x.2.2))
def r04_words_l0_psA (x : r04_words_l0_X) : List Prop := [((r04_words_l0_f_k3 x.1 x.2.1 x.2.2) = true → (r04_words_l0_f_k4 x.1 x.2.1 x.2.2) = true → (0 : Int) ≤ (r04_words_l0_f_k5 x.1 x.2.1 x.2.2) ∧ (r04_words_l0_f_k5 x.1 x.2.1 x.2.2) < (↑x.1.length : Int)), ((r04_words_l0_f_k3 x.1 x.2.1 x.2.2) = true → (r04_words_l0_f_k4 x.1 x.2.1 x.2.2) = true → (0 : Int) ≤ (r04_words_l0_f_k0 x.1 x.2.1 x.2.2) ∧ (r04_words_l0_f_k0 x.1 x.2.1 x.2.2) < (↑x.1.length : Int)), ((r04_words_l0_f_k3 x.1 x.2.1 x.2.2) = true → (r04_words_l0_f_k4 x.1 x.2.1 x.2.2) = true → (0 : Int) ≤ (r04_words_l0_f_k1 x.1 x.2.1 x.2.2) ∧ (r04_words_l0_f_k1 x.1 x.2.1 x.2.2) < (↑x.1.length : Int)), ((r04_words_l0_f_k3 x.1 x.2.1 x.2.2) = true → (r04_words_l0_f_k4 x.1 x.2.1 x.2.2) = true → (0 : Int) ≤ (r04_words_l0_f_k2 x.1 x.2.1 x.2.2) ∧ (r04_words_l0_f_k2 x.1 x.2.1 x.2.2) < (↑x.1.length : Int)), ((r04_words_l0_f_k3 x.1 x.2.1 x.2.2) = true → (r04_words_l0_f_k4 x.1 x.2.1 x.2.2) = true → boundP (x.2.2.length + (1 : Nat))), ((r04_words_l0_f_k3 x.1 x.2.1 x.2.2) = true → (!(r04_words_l0_f_k4 x.1 x.2.1 x.2.2)) = true → (0 : Int) ≤ (r04_words_l0_f_k7 x.1 x.2.1 x.2.2) ∧ (r04_words_l0_f_k7 x.1 x.2.1 x.2.2) < (↑x.2.2.length : Int)), ((r04_words_l0_f_k3 x.1 x.2.1 x.2.2) = true → (!(r04_words_l0_f_k4 x.1 x.2.1 x.2.2)) = true → (r04_words_l0_f_k7 x.1 x.2.1 x.2.2).toNat < x.2.2.length), ((r04_words_l0_f_k3 x.1 x.2.1 x.2.2) = true → (!(r04_words_l0_f_k4 x.1 x.2.1 x.2.2)) = true → (0 : Int) ≤ (r04_words_l0_f_k9 x.1 x.2.1 x.2.2) ∧ (r04_words_l0_f_k9 x.1 x.2.1 x.2.2) < (↑x.2.2.length : Int)), ((r04_words_l0_f_k3 x.1 x.2.1 x.2.2) = true → (!(r04_words_l0_f_k4 x.1 x.2.1 x.2.2)) = true → (r04_words_l0_f_k9 x.1 x.2.1 x.2.2).toNat < x.2.2.length), ((r04_words_l0_f_k3 x.1 x.2.1 x.2.2) = true → (!(r04_words_l0_f_k4 x.1 x.2.1 x.2.2)) = true → (0 : Int) ≤ (r04_words_l0_f_k6 x.1 x.2.1 x.2.2) ∧ (r04_words_l0_f_k6 x.1 x.2.1 x.2.2) < (↑x.2.2.length : Int)), ((r04_words_l0_f_k3 x.1 x.2.1 x.2.2) = true → (!(r04_words_l0_f_k4 x.1 x.2.1 x.2.2)) = true → (r04_words_l0_f_k6 x.1 x.2.1 x.2.2).toNat < x.2.2.length), ((r04_words_l0_f_k3 x.1 x.2.1 x.2.2) = true → (!(r04_words_l0_f_k4 x.1 x.2.1 x.2.2)) = true → (0 : Int) ≤ (r04_words_l0_f_k8 x.1 x.2.1 x.2.2) ∧ (r04_words_l0_f_k8 x.1 x.2.1 x.2.2) < (↑x.2.2.length : Int)), ((r04_words_l0_f_k3 x.1 x.2.1 x.2.2) = true → (!(r04_words_l0_f_k4 x.1 x.2.1 x.2.2)) = true → (r04_words_l0_f_k8 x.1 x.2.1 x.2.2).toNat < x.2.2.length), ((r04_words_l0_f_k3 x.1 x.2.1 x.2.2) = true → (!(r04_words_l0_f_k4 x.1 x.2.1 x.2.2)) = true → boundP (x.2.2.length + (1 : Nat)))]
def r04_words_l0_ps (x : r04_words_l0_X) : List Prop := [((r04_words_l0_f_k3 x.1 x.2.1 x.2.2) = true → (r04_words_l0_f_k4 x.1 x.2.1 x.2.2) = true → (0 : Int) ≤ (r04_words_l0_f_k5 x.1 x.2.1 x.2.2) ∧ (r04_words_l0_f_k5 x.1 x.2.1 x.2.2) < (↑x.1.length : Int)), ((r04_words_l0_f_k3 x.1 x.2.1 x.2.2) = true → (r04_words_l0_f_k4 x.1 x.2.1 x.2.2) = true → (0 : Int) ≤ (r04_words_l0_f_k0 x.1 x.2.1 x.2.2) ∧ (r04_words_l0_f_k0 x.1 x.2.1 x.2.2) < (↑x.1.length : Int)), ((r04_words_l0_f_k3 x.1 x.2.1 x.2.2) = true → (r04_words_l0_f_k4 x.1 x.2.1 x.2.2) = true → (0 : Int) ≤ (r04_words_l0_f_k1 x.1 x.2.1 x.2.2) ∧ (r04_words_l0_f_k1 x.1 x.2.1 x.2.2) < (↑x.1.length : Int)), ((r04_words_l0_f_k3 x.1 x.2.1 x.2.2) = true → (r04_words_l0_f_k4 x.1 x.2.1 x.2.2) = true → (0 : Int) ≤ (r04_words_l0_f_k2 x.1 x.2.1 x.2.2) ∧ (r04_words_l0_f_k2 x.1 x.2.1 x.2.2) < (↑x.1.length : Int)), ((r04_words_l0_f_k3 x.1 x.2.1 x.2.2) = true → (r04_words_l0_f_k4 x.1 x.2.1 x.2.2) = true → boundP (x.2.2.length + (1 : Nat))), ((r04_words_l0_f_k3 x.1 x.2.1 x.2.2) = true → (!(r04_words_l0_f_k4 x.1 x.2.1 x.2.2)) = true → (0 : Int) ≤ (r04_words_l0_f_k7 x.1 x.2.1 x.2.2) ∧ (r04_words_l0_f_k7 x.1 x.2.1 x.2.2) < (↑x.2.2.length : Int)), ((r04_words_l0_f_k3 x.1 x.2.1 x.2.2) = true → (!(r04_words_l0_f_k4 x.1 x.2.1 x.2.2)) = true → (0 : Int) ≤ (r04_words_l0_f_k9 x.1 x.2.1 x.2.2) ∧ (r04_words_l0_f_k9 x.1 x.2.1 x.2.2) < (↑x.2.2.length : Int)), ((r04_words_l0_f_k3 x.1 x.2.1 x.2.2) = true → (!(r04_words_l0_f_k4 x.1 x.2.1 x.2.2)) = true → (0 : Int) ≤ (r04_words_l0_f_k6 x.1 x.2.1 x.2.2) ∧ (r04_words_l0_f_k6 x.1 x.2.1 x.2.2) < (↑x.2.2.length : Int)), ((r04_words_l0_f_k3 x.1 x.2.1 x.2.2) = true → (!(r04_words_l0_f_k4 x.1 x.2.1 x.2.2)) = true → (0 : Int) ≤ (r04_words_l0_f_k8 x.1 x.2.1 x.2.2) ∧ (r04_words_l0_f_k8 x.1 x.2.1 x.2.2) < (↑x.2.2.length : Int)), ((r04_words_l0_f_k3 x.1 x.2.1 x.2.2) = true → (!(r04_words_l0_f_k4 x.1 x.2.1 x.2.2)) = true → boundP (x.2.2.length + (1 : Nat)))]
def r04_words_l0_outs (x : r04_words_l0_X) : Outs := [(some 0, some (!decide (x.2.1 < (64 : Int))), ⟨92, 2, [(3, .sq 1)], [(1, some (.arr 66 1 (.ty .u32 x.2.2)))]⟩)]
def r04_words_l0_fuel (x : r04_words_l0_X) : Nat := ((64 : Int) - x.2.1).toNat
def r04_words_l0_run (x : r04_words_l0_X) : r04_words_l0_X := iterX r04_words_l0_next r04_words_l0_goes (r04_words_l0_fuel x) x
theorem r04_words_l0_ev (a0 : List UInt8) (a1 : Int) (a2 : List Int) : roundE (envT Csh L0) 9 (loopAt Tryd.prog 34 0) r04_words_l0_S (r04_words_l0_T (a0, a1, a2)) = some (r04_words_l0_psA (a0, a1, a2), r04_words_l0_outs (a0, a1, a2), r04_words_l0_goes (a0, a1, a2), r04_words_l0_T (r04_words_l0_next (a0, a1, a2))) := by kernel_rfl
theorem r04_words_l0_hA (a0 : List UInt8) (a1 : Int) (a2 : List Int) (hp : ∀ p ∈ r04_words_l0_ps (a0, a1, a2), p) : ∀ p ∈ r04_words_l0_psA (a0, a1, a2), p := by
 have n0 := N0 hp
 have n1 : ((r04_words_l0_f_k3 a0 a1 a2) = true → (r04_words_l0_f_k4 a0 a1 a2) = true → (0 : Int) ≤ (r04_words_l0_f_k0 a0 a1 a2) ∧ (r04_words_l0_f_k0 a0 a1 a2) < (↑a0.length : Int)) := N0 (N1 hp)
 have n2 := N0 (N1 (N1 hp))
 have n3 := N0 (N1 (N1 (N1 hp)))
 have n4 := N0 (N1 (N1 (N1 (N1 hp))))
 have n5 : ((r04_words_l0_f_k3 a0 a1 a2) = true → (!(r04_words_l0_f_k4 a0 a1 a2)) = true → (0 : Int) ≤ (r04_words_l0_f_k7 a0 a1 a2) ∧ (r04_words_l0_f_k7 a0 a1 a2) < (↑a2.length : Int)) := N0 (N1 (N1 (N1 (N1 (N1 hp)))))
 have n6 : ((r04_words_l0_f_k3 a0 a1 a2) = true → (!(r04_words_l0_f_k4 a0 a1 a2)) = true → (r04_words_l0_f_k7 a0 a1 a2).toNat < a2.length) := by intro h0 h1; have g := n5 h0 h1; omega
 have n7 : ((r04_words_l0_f_k3 a0 a1 a2) = true → (!(r04_words_l0_f_k4 a0 a1 a2)) = true → (0 : Int) ≤ (r04_words_l0_f_k9 a0 a1 a2) ∧ (r04_words_l0_f_k9 a0 a1 a2) < (↑a2.length : Int)) := N0 (N1 (N1 (N1 (N1 (N1 (N1 hp))))))
 have n8 : ((r04_words_l0_f_k3 a0 a1 a2) = true → (!(r04_words_l0_f_k4 a0 a1 a2)) = true → (r04_words_l0_f_k9 a0 a1 a2).toNat < a2.length) := by intro h0 h1; have g := n7 h0 h1; omega
 have n9 : ((r04_words_l0_f_k3 a0 a1 a2) = true → (!(r04_words_l0_f_k4 a0 a1 a2)) = true → (0 : Int) ≤ (r04_words_l0_f_k6 a0 a1 a2) ∧ (r04_words_l0_f_k6 a0 a1 a2) < (↑a2.length : Int)) := N0 (N1 (N1 (N1 (N1 (N1 (N1 (N1 hp)))))))
 have n10 : ((r04_words_l0_f_k3 a0 a1 a2) = true → (!(r04_words_l0_f_k4 a0 a1 a2)) = true → (r04_words_l0_f_k6 a0 a1 a2).toNat < a2.length) := by intro h0 h1; have g := n9 h0 h1; omega
 have n11 : ((r04_words_l0_f_k3 a0 a1 a2) = true → (!(r04_words_l0_f_k4 a0 a1 a2)) = true → (0 : Int) ≤ (r04_words_l0_f_k8 a0 a1 a2) ∧ (r04_words_l0_f_k8 a0 a1 a2) < (↑a2.length : Int)) := N0 (N1 (N1 (N1 (N1 (N1 (N1 (N1 (N1 hp))))))))
 have n12 : ((r04_words_l0_f_k3 a0 a1 a2) = true → (!(r04_words_l0_f_k4 a0 a1 a2)) = true → (r04_words_l0_f_k8 a0 a1 a2).toNat < a2.length) := by intro h0 h1; have g := n11 h0 h1; omega
 have n13 := N0 (N1 (N1 (N1 (N1 (N1 (N1 (N1 (N1 (N1 hp)))))))))
 exact (needs_cons n0 (needs_cons n1 (needs_cons n2 (needs_cons n3 (needs_cons n4 (needs_cons n5 (needs_cons n6 (needs_cons n7 (needs_cons n8 (needs_cons n9 (needs_cons n10 (needs_cons n11 (needs_cons n12 (needs_cons n13 needs_nil))))))))))))))
noncomputable def r04_words_l0_row := rowL (envT Csh L0) (loopAt Tryd.prog 34 0) r04_words_l0_S r04_words_l0_E r04_words_l0_un r04_words_l0_fuel r04_words_l0_next r04_words_l0_goes r04_words_l0_ps r04_words_l0_outs
theorem r04_words_l0_rok : ∀ s b ps outs, r04_words_l0_row s = some (b, ps, outs) → Wf s ⟨ps, outs, none⟩ ∧ LoopOk (envT C0 L0) b s ps outs :=
 rowP_ok (T := r04_words_l0_T) Csh_ok L0_ok (u := 9) (by kernel_rfl) (by decide) (fun ⟨a0, a1, a2⟩ => r04_words_l0_ev a0 a1 a2) (fun ⟨a0, a1, a2⟩ => r04_words_l0_hA a0 a1 a2) r04_words_l0_unok (fun _ => okOuts_ok (n := 92) rfl) fun _ _ => rfl
noncomputable def r04_words_l0_L := addLp 0 r04_words_l0_row L0
theorem r04_words_l0_Lok : LpOk r04_words_l0_L := addLp_ok r04_words_l0_rok L0_ok
def r04_words_0 (a0 : List UInt8) : List Int := (r04_words_l0_run (a0, (0 : Int), [])).snd.snd
def r04_words_r (_a0 : List UInt8) : A := .sq 0
def r04_words_o (a0 : List UInt8) : Objs := [(0, some (.arr 66 1 (.ty .u32 (r04_words_0 a0))))]
def r04_words_ps (a0 : List UInt8) : List Prop := [(needX r04_words_l0_next r04_words_l0_goes r04_words_l0_ps (64 : Nat) (a0, (0 : Int), []))]
theorem r04_words_ev (a0 : List UInt8) : evF (envT Csh r04_words_l0_L) 9 34 [valA .bytes a0] 0 [] = some (1, r04_words_r a0, 1, r04_words_o a0, [(loopAt Tryd.prog (34 : FuncId) (0 : Nat) = loopAt Tryd.prog (34 : FuncId) (0 : Nat)), (needX r04_words_l0_next r04_words_l0_goes r04_words_l0_ps (64 : Nat) (a0, (0 : Int), []))]) := by kernel_rfl
theorem r04_words_c (a0 : List UInt8) (hp : ∀ p ∈ r04_words_ps a0, p) : CallOk Tryd.prog 34 [valA .bytes a0] 0 [] 1 (r04_words_r a0) 1 (r04_words_o a0) := by
 have n1 := N0 hp
 exact evF_ok (envP_ok Csh_ok r04_words_l0_Lok) (r04_words_ev a0) (needs_cons rfl (needs_cons n1 needs_nil))
def r04_words_t : List A → Nat → Objs → Option CRes := rowK [.t .bytes] 1 r04_words_r r04_words_o r04_words_ps
theorem r04_words_tok : TOk Tryd.prog 34 r04_words_t := rowK_ok (ks := [.t .bytes]) r04_words_c
noncomputable def Csw_1 := addC 34 r04_words_t Csh
theorem Csw_1_ok : COk Tryd.prog Csw_1 := addC_ok r04_words_tok Csh_ok
noncomputable def Csw := Csw_1
theorem Csw_ok : COk Tryd.prog Csw := Csw_1_ok
end Go.Proofs.YtkknpeeccejppaaDoor
namespace Go.Proofs.YtkknpeeccejppaaDoor
open Go.RowKit
def shW (b : List UInt8) : Nat → List Int
 | 0 => []
 | n + 1 => r04_words_l0_f_2 b (n : Int) (shW b n)
theorem words_f (b : List UInt8) (i : Int) (W : List Int) : ∃ v, r04_words_l0_f_2 b i W = W ++ [v] := by
 unfold r04_words_l0_f_2
 cases r04_words_l0_f_k4 b i W with
 | true => exact ⟨_, rfl⟩
 | false => exact ⟨_, rfl⟩
theorem shW_length (b : List UInt8) : ∀ n, (shW b n).length = n
 | 0 => rfl
 | n + 1 => by
  obtain ⟨v, h⟩ := words_f b n (shW b n)
  show (r04_words_l0_f_2 b (n : Int) (shW b n)).length = n + 1
  rw [h, List.length_append, shW_length b n]
  rfl
theorem shW_next (b : List UInt8) {i : Int} (h : 0 ≤ i) : r04_words_l0_f_2 b i (shW b i.toNat) = shW b (i + 1).toNat := by
 obtain ⟨n, rfl⟩ := Int.eq_ofNat_of_zero_le h
 rfl
theorem wA_eq (b : List UInt8) (i : Int) (L W : List Int) (h : i < 16) : ∃ v, sha_spread_l0_f_2 i b L = L.set i.toNat v ∧ r04_words_l0_f_2 b i W = W ++ [v] := by
 refine ⟨_, rfl, ?_⟩
 unfold r04_words_l0_f_2
 rw [show r04_words_l0_f_k4 b i W = true from decide_eq_true h]
 rfl
def wB (x16 x15 x7 x2 : Int) : Int := IntKind.u32.wrap (IntKind.u32.wrap (IntKind.u32.wrap (x16 + oB (BitVec.ofInt 32 (oB (BitVec.ofInt 32 (r04_turn_0 x15 7) ^^^ BitVec.ofInt 32 (r04_turn_0 x15 18))) ^^^ BitVec.ofInt 32 (Int.fdiv x15 8))) + x7) +
 oB (BitVec.ofInt 32 (oB (BitVec.ofInt 32 (r04_turn_0 x2 17) ^^^ BitVec.ofInt 32 (r04_turn_0 x2 19))) ^^^ BitVec.ofInt 32 (Int.fdiv x2 1024)))
theorem wB_ref (b : List UInt8) (i : Int) (W : List Int) (h : ¬ i < 16) : r04_words_l0_f_2 b i W = W ++ [wB (W.getD (r04_words_l0_f_k6 b i W).toNat (dflt TC.u32)) (W.getD (r04_words_l0_f_k7 b i W).toNat (dflt TC.u32)) (W.getD (r04_words_l0_f_k8 b i W).toNat (dflt TC.u32)) (W.getD (r04_words_l0_f_k9 b i W).toNat (dflt TC.u32))] := by
 unfold r04_words_l0_f_2
 rw [show r04_words_l0_f_k4 b i W = false from decide_eq_false h]
 rfl
theorem wB_own (i : Int) (L : List Int) : sha_spread_l2_f_1 i L = L.set i.toNat (wB (L.getD (sha_spread_l2_f_k1 i L).toNat (dflt TC.u32)) (L.getD (sha_spread_l2_f_k2 i L).toNat (dflt TC.u32)) (L.getD (sha_spread_l2_f_k3 i L).toNat (dflt TC.u32)) (L.getD (sha_spread_l2_f_k4 i L).toNat (dflt TC.u32))) := by
 unfold sha_spread_l2_f_1
 rw [rot7, rot18, rot17, rot19]
 rfl
theorem wB_eq {b : List UInt8} {i : Int} {L W : List Int} (h : 16 ≤ i) (h2 : i < 64) (hL : L.take i.toNat = W) : ∃ v, sha_spread_l2_f_1 i L = L.set i.toNat v ∧ r04_words_l0_f_2 b i W = W ++ [v] := by
 have g : ∀ (k : Int), 0 < k → k ≤ 16 → L.getD (IntKind.i64.wrap (i - k)).toNat (dflt TC.u32) = W.getD (IntKind.i64.wrap (i - k)).toNat (dflt TC.u32) := fun k h3 h4 => by
  rw [i64_in ⟨by omega, by omega⟩, ← hL]
  exact (getD_take (by omega)).symm
 have g16 := g 16 (by omega) (by omega)
 have g15 := g 15 (by omega) (by omega)
 have g7 := g 7 (by omega) (by omega)
 have g2 := g 2 (by omega) (by omega)
 refine ⟨_, wB_own i L, ?_⟩
 rw [wB_ref b i W (by omega)]
 unfold sha_spread_l2_f_k1 sha_spread_l2_f_k2 sha_spread_l2_f_k3 sha_spread_l2_f_k4
 rw [g16, g15, g7, g2]
 rfl
theorem words_run (b : List UInt8) (hb : b.length = 64) : needX r04_words_l0_next r04_words_l0_goes r04_words_l0_ps 64 (b, 0, []) ∧ r04_words_0 b = shW b 64 := by
 have main := loop_inv (next := r04_words_l0_next) (goes := r04_words_l0_goes) (ps := r04_words_l0_ps) (fun x => x.1 = b ∧ (0 ≤ x.2.1 ∧ x.2.1 ≤ 64) ∧ x.2.2 = shW b x.2.1.toNat) (fun x => (64 - x.2.1).toNat) (fun x hx => ?_) 64 (b, 0, []) ⟨rfl, (show (0 : Int) ≤ 0 ∧ (0 : Int) ≤ 64 from ⟨by omega, by omega⟩), rfl⟩ (show ((64 : Int) - 0).toNat ≤ 64 by decide)
 ·obtain ⟨h1, ⟨_, h2, h3⟩, h4⟩ := main
  refine ⟨h1, ?_⟩
  unfold r04_words_0 r04_words_l0_run
  rw [show r04_words_l0_fuel (b, (0 : Int), []) = 64 from rfl]
  generalize iterX r04_words_l0_next r04_words_l0_goes 64 (b, 0, []) = y at h2 h3 h4
  have hg : (!!decide (y.2.1 < 64)) = false := h4
  have : ¬ y.2.1 < 64 := by simpa using hg
  rw [h3, show y.2.1.toNat = 64 by omega]
 ·obtain ⟨x, i, W⟩ := x
  obtain ⟨rfl, hi, hW⟩ := hx
  have hW : W = shW x i.toNat := hW
  have hi : 0 ≤ i ∧ i ≤ 64 := hi
  have hlen : W.length = i.toNat := by rw [hW, shW_length]
  have wr : ∀ n : Int, 0 ≤ n → n ≤ 1000 → IntKind.i64.wrap n = n := fun n h1 h2 => i64_in ⟨by omega, by omega⟩
  have b3 : r04_words_l0_f_k3 x i W = true → i < 64 := fun h => by simpa [r04_words_l0_f_k3] using h
  have b4 : r04_words_l0_f_k4 x i W = true → i < 16 := fun h => by simpa [r04_words_l0_f_k4] using h
  have b4' : (!r04_words_l0_f_k4 x i W) = true → 16 ≤ i := fun h => by simpa [r04_words_l0_f_k4] using h
  have k5 : i < 16 → r04_words_l0_f_k5 x i W = 4 * i := fun h => wr _ (by omega) (by omega)
  have k0 : i < 16 → r04_words_l0_f_k0 x i W = 4 * i + 1 := fun h => by unfold r04_words_l0_f_k0; rw [k5 h]; exact wr _ (by omega) (by omega)
  have k1 : i < 16 → r04_words_l0_f_k1 x i W = 4 * i + 2 := fun h => by unfold r04_words_l0_f_k1; rw [k5 h]; exact wr _ (by omega) (by omega)
  have k2 : i < 16 → r04_words_l0_f_k2 x i W = 4 * i + 3 := fun h => by unfold r04_words_l0_f_k2; rw [k5 h]; exact wr _ (by omega) (by omega)
  have k6 : 16 ≤ i → r04_words_l0_f_k6 x i W = i - 16 := fun h => wr _ (by omega) (by omega)
  have k7 : 16 ≤ i → r04_words_l0_f_k7 x i W = i - 15 := fun h => wr _ (by omega) (by omega)
  have k8 : 16 ≤ i → r04_words_l0_f_k8 x i W = i - 7 := fun h => wr _ (by omega) (by omega)
  have k9 : 16 ≤ i → r04_words_l0_f_k9 x i W = i - 2 := fun h => wr _ (by omega) (by omega)
  have bd : boundP (W.length + 1) := by unfold boundP; omega
  refine ⟨?_, fun hg => ?_⟩
  ·show ∀ p ∈ ([_, _, _, _, _, _, _, _, _, _] : List Prop), p
   refine needs_cons (fun _ h => ?_) (needs_cons (fun _ h => ?_) (needs_cons (fun _ h => ?_) (needs_cons (fun _ h => ?_) (needs_cons (fun _ _ => bd) (needs_cons (fun q h => ?_) (needs_cons (fun q h => ?_) (needs_cons (fun q h => ?_) (needs_cons (fun q h => ?_) (needs_cons (fun _ _ => bd) needs_nil)))))))))
   ·have := b4 h; show 0 ≤ r04_words_l0_f_k5 x i W ∧ r04_words_l0_f_k5 x i W < _; rw [k5 this, hb]; omega
   ·have := b4 h; show 0 ≤ r04_words_l0_f_k0 x i W ∧ r04_words_l0_f_k0 x i W < _; rw [k0 this, hb]; omega
   ·have := b4 h; show 0 ≤ r04_words_l0_f_k1 x i W ∧ r04_words_l0_f_k1 x i W < _; rw [k1 this, hb]; omega
   ·have := b4 h; show 0 ≤ r04_words_l0_f_k2 x i W ∧ r04_words_l0_f_k2 x i W < _; rw [k2 this, hb]; omega
   ·have := b4' h; show 0 ≤ r04_words_l0_f_k7 x i W ∧ r04_words_l0_f_k7 x i W < (W.length : Int); rw [k7 this, hlen]; omega
   ·have := b4' h; show 0 ≤ r04_words_l0_f_k9 x i W ∧ r04_words_l0_f_k9 x i W < (W.length : Int); rw [k9 this, hlen]; omega
   ·have := b4' h; show 0 ≤ r04_words_l0_f_k6 x i W ∧ r04_words_l0_f_k6 x i W < (W.length : Int); rw [k6 this, hlen]; omega
   ·have := b4' h; show 0 ≤ r04_words_l0_f_k8 x i W ∧ r04_words_l0_f_k8 x i W < (W.length : Int); rw [k8 this, hlen]; omega
  ·have hlt : i < 64 := b3 hg
   have e1 : IntKind.i64.wrap (i + 1) = i + 1 := wr _ (by omega) (by omega)
   refine ⟨⟨rfl, ?_, ?_⟩, ?_⟩
   ·show 0 ≤ IntKind.i64.wrap (i + 1) ∧ IntKind.i64.wrap (i + 1) ≤ 64
    rw [e1]; omega
   ·show r04_words_l0_f_2 x i W = shW x (IntKind.i64.wrap (i + 1)).toNat
    rw [e1, hW]
    exact shW_next x hi.1
   ·show (64 - IntKind.i64.wrap (i + 1)).toNat < (64 - i).toNat
    rw [e1]; omega
theorem spreadW_ok (b : List UInt8) (z : List Int) (hz : z.length = 64) : (needX sha_spread_l0_next sha_spread_l0_goes sha_spread_l0_ps 16 (0, b, z) ∧
  needX sha_spread_l2_next sha_spread_l2_goes sha_spread_l2_ps 48 (16, (sha_spread_l0_run (0, b, z)).2.2)) ∧ (sha_spread_l2_run (16, (sha_spread_l0_run (0, b, z)).2.2)).2 = shW b 64 := by
 have wr : ∀ n : Int, 0 ≤ n → n ≤ 1000 → IntKind.i64.wrap n = n := fun n h1 h2 => i64_in ⟨by omega, by omega⟩
 have m0 := loop_inv (next := sha_spread_l0_next) (goes := sha_spread_l0_goes) (ps := sha_spread_l0_ps) (fun x => (0 ≤ x.1 ∧ x.1 ≤ 16) ∧ x.2.1 = b ∧ x.2.2.length = 64 ∧ x.2.2.take x.1.toNat = shW b x.1.toNat) (fun x => (16 - x.1).toNat) (fun x hx => ?_) 16 (0, b, z)
  ⟨(show (0 : Int) ≤ 0 ∧ (0 : Int) ≤ 16 from ⟨by omega, by omega⟩), rfl, hz, rfl⟩ (show ((16 : Int) - 0).toNat ≤ 16 by decide)
 ·have r0 : sha_spread_l0_run (0, b, z) = iterX sha_spread_l0_next sha_spread_l0_goes 16 (0, b, z) := by
   unfold sha_spread_l0_run
   rw [show sha_spread_l0_fuel ((0 : Int), b, z) = 16 from rfl]
  rw [r0]
  obtain ⟨n0, ⟨h1, h2, h3, h4⟩, h5⟩ := m0
  generalize iterX sha_spread_l0_next sha_spread_l0_goes 16 (0, b, z) = y at h1 h2 h3 h4 h5
  have hg : (!!decide (y.1 < 16)) = false := h5
  have : ¬ y.1 < 16 := by simpa using hg
  have hy : y.1.toNat = 16 := by omega
  rw [hy] at h4
  have m2 := loop_inv (next := sha_spread_l2_next) (goes := sha_spread_l2_goes) (ps := sha_spread_l2_ps) (fun x => (16 ≤ x.1 ∧ x.1 ≤ 64) ∧ x.2.length = 64 ∧ x.2.take x.1.toNat = shW b x.1.toNat) (fun x => (64 - x.1).toNat) (fun x hx => ?_) 48 (16, y.2.2)
   ⟨(show (16 : Int) ≤ 16 ∧ (16 : Int) ≤ 64 from ⟨by omega, by omega⟩), h3, h4⟩ (show ((64 : Int) - 16).toNat ≤ 48 by decide)
  ·refine ⟨⟨n0, m2.1⟩, ?_⟩
   have r2 : sha_spread_l2_run (16, y.2.2) = iterX sha_spread_l2_next sha_spread_l2_goes 48 (16, y.2.2) := by
    unfold sha_spread_l2_run
    rw [show sha_spread_l2_fuel ((16 : Int), y.2.2) = 48 from rfl]
   rw [r2]
   obtain ⟨_, ⟨q1, q2, q3⟩, q5⟩ := m2
   generalize iterX sha_spread_l2_next sha_spread_l2_goes 48 (16, y.2.2) = u at q1 q2 q3 q5
   have hg : (!!decide (u.1 < 64)) = false := q5
   have : ¬ u.1 < 64 := by simpa using hg
   rw [show u.1.toNat = 64 by omega, List.take_of_length_le (by omega)] at q3
   exact q3
  ·obtain ⟨i, L⟩ := x
   obtain ⟨hi, hL, hW⟩ := hx
   have hi : 16 ≤ i ∧ i ≤ 64 := hi
   have hL : L.length = 64 := hL
   have hW : L.take i.toNat = shW b i.toNat := hW
   have b0 : sha_spread_l2_f_k0 i L = true → i < 64 := fun h => by simpa [sha_spread_l2_f_k0] using h
   have kk : ∀ k : Int, 0 < k → k ≤ 16 → IntKind.i64.wrap (i - k) = i - k := fun k h1 h2 => wr _ (by omega) (by omega)
   refine ⟨?_, fun hg => ?_⟩
   ·show ∀ p ∈ ([_, _, _, _, _] : List Prop), p
    refine needs_cons (fun h => ?_) (needs_cons (fun h => ?_) (needs_cons (fun h => ?_) (needs_cons (fun h => ?_) (needs_cons (fun h => ?_) needs_nil))))
    ·have := b0 h; show 0 ≤ IntKind.i64.wrap (i - 15) ∧ IntKind.i64.wrap (i - 15) < 64; rw [kk 15 (by omega) (by omega)]; omega
    ·have := b0 h; show 0 ≤ IntKind.i64.wrap (i - 2) ∧ IntKind.i64.wrap (i - 2) < 64; rw [kk 2 (by omega) (by omega)]; omega
    ·have := b0 h; show 0 ≤ IntKind.i64.wrap (i - 16) ∧ IntKind.i64.wrap (i - 16) < 64; rw [kk 16 (by omega) (by omega)]; omega
    ·have := b0 h; show 0 ≤ IntKind.i64.wrap (i - 7) ∧ IntKind.i64.wrap (i - 7) < 64; rw [kk 7 (by omega) (by omega)]; omega
    ·have := b0 h; show 0 ≤ i ∧ i < 64; omega
   ·have hlt : i < 64 := b0 hg
    have e1 : IntKind.i64.wrap (i + 1) = i + 1 := wr _ (by omega) (by omega)
    obtain ⟨v, v1, v2⟩ := wB_eq (b := b) hi.1 hlt hW
    refine ⟨⟨?_, ?_, ?_⟩, ?_⟩
    ·show 16 ≤ IntKind.i64.wrap (i + 1) ∧ IntKind.i64.wrap (i + 1) ≤ 64
     rw [e1]; omega
    ·show (sha_spread_l2_f_1 i L).length = 64
     rw [v1, List.length_set, hL]
    ·show (sha_spread_l2_f_1 i L).take (IntKind.i64.wrap (i + 1)).toNat = shW b (IntKind.i64.wrap (i + 1)).toNat
     rw [e1, v1, ← shW_next b (by omega), v2, show (i + 1).toNat = i.toNat + 1 by omega, take_set (by omega), hW]
    ·show (64 - IntKind.i64.wrap (i + 1)).toNat < (64 - i).toNat
     rw [e1]; omega
 ·obtain ⟨i, b', L⟩ := x
  obtain ⟨hi, hb', hL, hW⟩ := hx
  have hi : 0 ≤ i ∧ i ≤ 16 := hi
  have hb' : b' = b := hb'
  subst hb'
  have hL : L.length = 64 := hL
  have hW : L.take i.toNat = shW b' i.toNat := hW
  have b3 : sha_spread_l0_f_k3 i b' L = true → i < 16 := fun h => by simpa [sha_spread_l0_f_k3] using h
  have k4 : i < 16 → sha_spread_l0_f_k4 i b' L = 4 * i := fun h => wr _ (by omega) (by omega)
  have k0 : i < 16 → sha_spread_l0_f_k0 i b' L = 4 * i + 1 := fun h => by unfold sha_spread_l0_f_k0; rw [k4 h]; exact wr _ (by omega) (by omega)
  have k1 : i < 16 → sha_spread_l0_f_k1 i b' L = 4 * i + 2 := fun h => by unfold sha_spread_l0_f_k1; rw [k4 h]; exact wr _ (by omega) (by omega)
  have k2 : i < 16 → sha_spread_l0_f_k2 i b' L = 4 * i + 3 := fun h => by unfold sha_spread_l0_f_k2; rw [k4 h]; exact wr _ (by omega) (by omega)
  refine ⟨?_, fun hg => ?_⟩
  ·show ∀ p ∈ ([_, _, _, _, _] : List Prop), p
   refine needs_cons (fun h => ?_) (needs_cons (fun h => ?_) (needs_cons (fun h => ?_) (needs_cons (fun h => ?_) (needs_cons (fun h => ?_) needs_nil))))
   ·have := b3 h; show 0 ≤ sha_spread_l0_f_k4 i b' L ∧ sha_spread_l0_f_k4 i b' L < 64; rw [k4 this]; omega
   ·have := b3 h; show 0 ≤ sha_spread_l0_f_k0 i b' L ∧ sha_spread_l0_f_k0 i b' L < 64; rw [k0 this]; omega
   ·have := b3 h; show 0 ≤ sha_spread_l0_f_k1 i b' L ∧ sha_spread_l0_f_k1 i b' L < 64; rw [k1 this]; omega
   ·have := b3 h; show 0 ≤ sha_spread_l0_f_k2 i b' L ∧ sha_spread_l0_f_k2 i b' L < 64; rw [k2 this]; omega
   ·have := b3 h; show 0 ≤ i ∧ i < 64; omega
  ·have hlt : i < 16 := b3 hg
   have e1 : IntKind.i64.wrap (i + 1) = i + 1 := wr _ (by omega) (by omega)
   obtain ⟨v, v1, v2⟩ := wA_eq b' i L (shW b' i.toNat) hlt
   refine ⟨⟨?_, rfl, ?_, ?_⟩, ?_⟩
   ·show 0 ≤ IntKind.i64.wrap (i + 1) ∧ IntKind.i64.wrap (i + 1) ≤ 16
    rw [e1]; omega
   ·show (sha_spread_l0_f_2 i b' L).length = 64
    rw [v1, List.length_set, hL]
   ·show (sha_spread_l0_f_2 i b' L).take (IntKind.i64.wrap (i + 1)).toNat = shW b' (IntKind.i64.wrap (i + 1)).toNat
    rw [e1, v1, ← shW_next b' hi.1, v2, show (i + 1).toNat = i.toNat + 1 by omega, take_set (by omega), hW]
   ·show (16 - IntKind.i64.wrap (i + 1)).toNat < (16 - i).toNat
    rw [e1]; omega
theorem spread_w (b : List UInt8) : (∀ p ∈ sha_spread_ps b, p) ∧ sha_spread_0 b = shW b 64 := by
 refine ⟨needs_cons (spreadW_ok b _ ?_).1.1 (needs_cons (spreadW_ok b _ ?_).1.2 needs_nil), (spreadW_ok b _ ?_).2⟩ <;> rfl
end Go.Proofs.YtkknpeeccejppaaDoor
namespace Go.Proofs.YtkknpeeccejppaaDoor
open Go.RowKit
abbrev sha_mix_l0_X : Type := Int × Int × Int × Int × Int × Int × Int × Int × (List Int) × Int
def sha_mix_l0_T (x : sha_mix_l0_X) : St := ⟨117, 3, [(5, .v (.int .u32 x.1)), (6, .v (.int .u32 x.2.1)), (7, .v (.int .u32 x.2.2.1)), (8, .v (.int .u32 x.2.2.2.1)), (9, .v (.int .u32 x.2.2.2.2.1)), (10, .v (.int .u32 x.2.2.2.2.2.1)), (11, .v (.int .u32 x.2.2.2.2.2.2.1)), (12, .v (.int .u32 x.2.2.2.2.2.2.2.1)), (36, .av .u32 64 x.2.2.2.2.2.2.2.2.1), (37, .v (.int .i64 x.2.2.2.2.2.2.2.2.2))], []⟩
def sha_mix_l0_un : St → Option sha_mix_l0_X
 | ⟨117, 3, [(5, .v (.int .u32 z0)), (6, .v (.int .u32 z1)), (7, .v (.int .u32 z2)), (8, .v (.int .u32 z3)), (9, .v (.int .u32 z4)), (10, .v (.int .u32 z5)), (11, .v (.int .u32 z6)), (12, .v (.int .u32 z7)), (36, .av .u32 64 z8), (37, .v (.int .i64 z9))], []⟩ => some (z0, z1, z2, z3, z4, z5, z6, z7, z8, z9)
 | _ => none
theorem sha_mix_l0_unok : ∀ s x, sha_mix_l0_un s = some x → s = sha_mix_l0_T x := fun s x h => by
 unfold sha_mix_l0_un at h
 split at h
 ·cases h; rfl
 ·cases h
def sha_mix_l0_S : Shape := ⟨3, 3, [5, 6, 7, 8, 9, 10, 11, 12, 36, 37], [], [], [], [5, 6, 7, 8, 9, 10, 11, 12], []⟩
def sha_mix_l0_E : Entry := ⟨[], [], [5, 6, 7, 8, 9, 10, 11, 12, 36, 37], []⟩
def sha_mix_l0_f_k1 (_a0 : Int) (_a1 : Int) (_a2 : Int) (_a3 : Int) (_a4 : Int) (_a5 : Int) (_a6 : Int) (_a7 : Int) (_a8 : List Int) (a9 : Int) : Bool := !!decide (a9 < (64 : Int))
def sha_mix_l0_f_k0 (_a0 : Int) (_a1 : Int) (_a2 : Int) (_a3 : Int) (a4 : Int) (a5 : Int) (a6 : Int) (a7 : Int) (a8 : List Int) (a9 : Int) : Int := IntKind.u32.wrap (IntKind.u32.wrap (IntKind.u32.wrap (IntKind.u32.wrap (a7 + IntKind.u32.wrap (↑(BitVec.ofInt (32 : Nat) (IntKind.u32.wrap (↑(BitVec.ofInt (32 : Nat) (math_bits_RotateLeft32_0 a4 (-6 : Int)) ^^^ BitVec.ofInt (32 : Nat) (math_bits_RotateLeft32_0 a4 (-11 : Int))).toNat : Int)) ^^^ BitVec.ofInt (32 : Nat) (math_bits_RotateLeft32_0 a4 (-25 : Int))).toNat : Int)) + IntKind.u32.wrap (↑(BitVec.ofInt (32 : Nat) a6 ^^^ BitVec.ofInt (32 : Nat) (IntKind.u32.wrap (↑(BitVec.ofInt (32 : Nat) a4 &&& BitVec.ofInt (32 : Nat) (IntKind.u32.wrap (↑(BitVec.ofInt (32 : Nat) a5 ^^^ BitVec.ofInt (32 : Nat) a6).toNat : Int))).toNat : Int))).toNat : Int)) + [(1116352408 : U TC.u32), (1899447441 : U TC.u32), (3049323471 : U TC.u32), (3921009573 : U TC.u32), (961987163 : U TC.u32), (1508970993 : U TC.u32), (2453635748 : U TC.u32), (2870763221 : U TC.u32), (3624381080 : U TC.u32), (310598401 : U TC.u32), (607225278 : U TC.u32), (1426881987 : U TC.u32), (1925078388 : U TC.u32), (2162078206 : U TC.u32), (2614888103 : U TC.u32), (3248222580 : U TC.u32), (3835390401 : U TC.u32), (4022224774 : U TC.u32), (264347078 : U TC.u32), (604807628 : U TC.u32), (770255983 : U TC.u32), (1249150122 : U TC.u32), (1555081692 : U TC.u32), (1996064986 : U TC.u32), (2554220882 : U TC.u32), (2821834349 : U TC.u32), (2952996808 : U TC.u32), (3210313671 : U TC.u32), (3336571891 : U TC.u32), (3584528711 : U TC.u32), (113926993 : U TC.u32), (338241895 : U TC.u32), (666307205 : U TC.u32), (773529912 : U TC.u32), (1294757372 : U TC.u32), (1396182291 : U TC.u32), (1695183700 : U TC.u32), (1986661051 : U TC.u32), (2177026350 : U TC.u32), (2456956037 : U TC.u32), (2730485921 : U TC.u32), (2820302411 : U TC.u32), (3259730800 : U TC.u32), (3345764771 : U TC.u32), (3516065817 : U TC.u32), (3600352804 : U TC.u32), (4094571909 : U TC.u32), (275423344 : U TC.u32), (430227734 : U TC.u32), (506948616 : U TC.u32), (659060556 : U TC.u32), (883997877 : U TC.u32), (958139571 : U TC.u32), (1322822218 : U TC.u32), (1537002063 : U TC.u32), (1747873779 : U TC.u32), (1955562222 : U TC.u32), (2024104815 : U TC.u32), (2227730452 : U TC.u32), (2361852424 : U TC.u32), (2428436474 : U TC.u32), (2756734187 : U TC.u32), (3204031479 : U TC.u32), (3329325298 : U TC.u32)].getD a9.toNat (dflt TC.u32)) + a8.getD a9.toNat (dflt TC.u32))
def sha_mix_l0_f_0 (a0 : Int) (a1 : Int) (a2 : Int) (a3 : Int) (a4 : Int) (a5 : Int) (a6 : Int) (a7 : Int) (a8 : List Int) (a9 : Int) : Int := IntKind.u32.wrap ((sha_mix_l0_f_k0 a0 a1 a2 a3 a4 a5 a6 a7 a8 a9) + IntKind.u32.wrap (IntKind.u32.wrap (↑(BitVec.ofInt (32 : Nat) (IntKind.u32.wrap (↑(BitVec.ofInt (32 : Nat) (math_bits_RotateLeft32_0 a0 (-2 : Int)) ^^^ BitVec.ofInt (32 : Nat) (math_bits_RotateLeft32_0 a0 (-13 : Int))).toNat : Int)) ^^^ BitVec.ofInt (32 : Nat) (math_bits_RotateLeft32_0 a0 (-22 : Int))).toNat : Int) + IntKind.u32.wrap (↑(BitVec.ofInt (32 : Nat) (IntKind.u32.wrap (↑(BitVec.ofInt (32 : Nat) a0 &&& BitVec.ofInt (32 : Nat) a1).toNat : Int)) ||| BitVec.ofInt (32 : Nat) (IntKind.u32.wrap (↑(BitVec.ofInt (32 : Nat) a2 &&& BitVec.ofInt (32 : Nat) (IntKind.u32.wrap (↑(BitVec.ofInt (32 : Nat) a0 ||| BitVec.ofInt (32 : Nat) a1).toNat : Int))).toNat : Int))).toNat : Int)))
def sha_mix_l0_f_4 (a0 : Int) (a1 : Int) (a2 : Int) (a3 : Int) (a4 : Int) (a5 : Int) (a6 : Int) (a7 : Int) (a8 : List Int) (a9 : Int) : Int := IntKind.u32.wrap (a3 + (sha_mix_l0_f_k0 a0 a1 a2 a3 a4 a5 a6 a7 a8 a9))
def sha_mix_l0_f_10 (a0 : Int) (a1 : Int) (a2 : Int) (a3 : Int) (a4 : Int) (a5 : Int) (a6 : Int) (a7 : Int) (a8 : List Int) (a9 : Int) : Bool := (sha_mix_l0_f_k1 a0 a1 a2 a3 a4 a5 a6 a7 a8 a9)
def sha_mix_l0_next (x : sha_mix_l0_X) : sha_mix_l0_X := (sha_mix_l0_f_0 x.1 x.2.1 x.2.2.1 x.2.2.2.1 x.2.2.2.2.1 x.2.2.2.2.2.1 x.2.2.2.2.2.2.1 x.2.2.2.2.2.2.2.1 x.2.2.2.2.2.2.2.2.1 x.2.2.2.2.2.2.2.2.2, x.1, x.2.1, x.2.2.1, sha_mix_l0_f_4 x.1 x.2.1 x.2.2.1 x.2.2.2.1 x.2.2.2.2.1 x.2.2.2.2.2.1 x.2.2.2.2.2.2.1 x.2.2.2.2.2.2.2.1 x.2.2.2.2.2.2.2.2.1 x.2.2.2.2.2.2.2.2.2, x.2.2.2.2.1, x.2.2.2.2.2.1, x.2.2.2.2.2.2.1, x.2.2.2.2.2.2.2.2.1, IntKind.i64.wrap (x.2.2.2.2.2.2.2.2.2 + (1 : Int)))
def sha_mix_l0_goes (x : sha_mix_l0_X) : Cnd := some (sha_mix_l0_f_10 x.1 x.2.1 x.2.2.1 x.2.2.2.1 x.2.2.2.2.1 x.2.2.2.2.2.1 x.2.2.2.2.2.2.1 x.2.2.2.2.2.2.2.1 x.2.2.2.2.2.2.2.2.1 x.2.2.2.2.2.2.2.2.2)
def sha_mix_l0_psA (x : sha_mix_l0_X) : List Prop := [((sha_mix_l0_f_k1 x.1 x.2.1 x.2.2.1 x.2.2.2.1 x.2.2.2.2.1 x.2.2.2.2.2.1 x.2.2.2.2.2.2.1 x.2.2.2.2.2.2.2.1 x.2.2.2.2.2.2.2.2.1 x.2.2.2.2.2.2.2.2.2) = true → (0 : Int) ≤ x.2.2.2.2.2.2.2.2.2 ∧ x.2.2.2.2.2.2.2.2.2 < (64 : Int)), ((sha_mix_l0_f_k1 x.1 x.2.1 x.2.2.1 x.2.2.2.1 x.2.2.2.2.1 x.2.2.2.2.2.1 x.2.2.2.2.2.2.1 x.2.2.2.2.2.2.2.1 x.2.2.2.2.2.2.2.2.1 x.2.2.2.2.2.2.2.2.2) = true → (0 : Int) ≤ x.2.2.2.2.2.2.2.2.2 ∧ x.2.2.2.2.2.2.2.2.2 < (64 : Int))]
def sha_mix_l0_ps (x : sha_mix_l0_X) : List Prop := [((sha_mix_l0_f_k1 x.1 x.2.1 x.2.2.1 x.2.2.2.1 x.2.2.2.2.1 x.2.2.2.2.2.1 x.2.2.2.2.2.2.1 x.2.2.2.2.2.2.2.1 x.2.2.2.2.2.2.2.2.1 x.2.2.2.2.2.2.2.2.2) = true → (0 : Int) ≤ x.2.2.2.2.2.2.2.2.2 ∧ x.2.2.2.2.2.2.2.2.2 < (64 : Int))]
def sha_mix_l0_outs (x : sha_mix_l0_X) : Outs := [(some 0, some (!decide (x.2.2.2.2.2.2.2.2.2 < (64 : Int))), ⟨117, 3, [(5, .v (.int .u32 x.1)), (6, .v (.int .u32 x.2.1)), (7, .v (.int .u32 x.2.2.1)), (8, .v (.int .u32 x.2.2.2.1)), (9, .v (.int .u32 x.2.2.2.2.1)), (10, .v (.int .u32 x.2.2.2.2.2.1)), (11, .v (.int .u32 x.2.2.2.2.2.2.1)), (12, .v (.int .u32 x.2.2.2.2.2.2.2.1))], []⟩)]
def sha_mix_l0_fuel (x : sha_mix_l0_X) : Nat := ((64 : Int) - x.2.2.2.2.2.2.2.2.2).toNat
def sha_mix_l0_run (x : sha_mix_l0_X) : sha_mix_l0_X := iterX sha_mix_l0_next sha_mix_l0_goes (sha_mix_l0_fuel x) x
theorem sha_mix_l0_ev (a0 : Int) (a1 : Int) (a2 : Int) (a3 : Int) (a4 : Int) (a5 : Int) (a6 : Int) (a7 : Int) (a8 : List Int) (a9 : Int) : roundE (envT Css L0) 9 (loopAt Tryd.prog 41 0) sha_mix_l0_S (sha_mix_l0_T (a0, a1, a2, a3, a4, a5, a6, a7, a8, a9)) = some (sha_mix_l0_psA (a0, a1, a2, a3, a4, a5, a6, a7, a8, a9), sha_mix_l0_outs (a0, a1, a2, a3, a4, a5, a6, a7, a8, a9), sha_mix_l0_goes (a0, a1, a2, a3, a4, a5, a6, a7, a8, a9), sha_mix_l0_T (sha_mix_l0_next (a0, a1, a2, a3, a4, a5, a6, a7, a8, a9))) := by kernel_rfl
theorem sha_mix_l0_hA (a0 : Int) (a1 : Int) (a2 : Int) (a3 : Int) (a4 : Int) (a5 : Int) (a6 : Int) (a7 : Int) (a8 : List Int) (a9 : Int) (hp : ∀ p ∈ sha_mix_l0_ps (a0, a1, a2, a3, a4, a5, a6, a7, a8, a9), p) : ∀ p ∈ sha_mix_l0_psA (a0, a1, a2, a3, a4, a5, a6, a7, a8, a9), p := by
 have n0 : ((sha_mix_l0_f_k1 a0 a1 a2 a3 a4 a5 a6 a7 a8 a9) = true → (0 : Int) ≤ a9 ∧ a9 < (64 : Int)) := N0 hp
 exact (needs_cons n0 (needs_cons n0 needs_nil))
noncomputable def sha_mix_l0_row := rowL (envT Css L0) (loopAt Tryd.prog 41 0) sha_mix_l0_S sha_mix_l0_E sha_mix_l0_un sha_mix_l0_fuel sha_mix_l0_next sha_mix_l0_goes sha_mix_l0_ps sha_mix_l0_outs
theorem sha_mix_l0_rok : ∀ s b ps outs, sha_mix_l0_row s = some (b, ps, outs) → Wf s ⟨ps, outs, none⟩ ∧ LoopOk (envT C0 L0) b s ps outs :=
 rowP_ok (T := sha_mix_l0_T) Css_ok L0_ok (u := 9) (by kernel_rfl) (by decide) (fun ⟨a0, a1, a2, a3, a4, a5, a6, a7, a8, a9⟩ => sha_mix_l0_ev a0 a1 a2 a3 a4 a5 a6 a7 a8 a9) (fun ⟨a0, a1, a2, a3, a4, a5, a6, a7, a8, a9⟩ => sha_mix_l0_hA a0 a1 a2 a3 a4 a5 a6 a7 a8 a9) sha_mix_l0_unok (fun _ => okOuts_ok (n := 117) rfl) fun _ _ => rfl
noncomputable def sha_mix_l0_L := addLp 0 sha_mix_l0_row L0
theorem sha_mix_l0_Lok : LpOk sha_mix_l0_L := addLp_ok sha_mix_l0_rok L0_ok
abbrev sha_mix_l2_X : Type := (List Int) × Int × (List Int)
def sha_mix_l2_T (x : sha_mix_l2_X) : St := ⟨117, 3, [(2, .own 0 0), (104, .av .u32 8 x.1), (105, .v (.int .i64 x.2.1))], [(0, some (.rcd 86 [.av .u32 8 x.2.2]))]⟩
def sha_mix_l2_un : St → Option sha_mix_l2_X
 | ⟨117, 3, [(2, .own 0 0), (104, .av .u32 8 z0), (105, .v (.int .i64 z1))], [(0, some (.rcd 86 [.av .u32 8 z2]))]⟩ => some (z0, z1, z2)
 | _ => none
theorem sha_mix_l2_unok : ∀ s x, sha_mix_l2_un s = some x → s = sha_mix_l2_T x := fun s x h => by
 unfold sha_mix_l2_un at h
 split at h
 ·cases h; rfl
 ·cases h
def sha_mix_l2_S : Shape := ⟨3, 3, [2, 104, 105], [], [(0, 0)], [0], [], [0]⟩
def sha_mix_l2_E : Entry := ⟨[.avd 104 .u32 8], [(0, 0)], [2, 104, 105], [0]⟩
def sha_mix_l2_f_k0 (_a0 : List Int) (a1 : Int) (_a2 : List Int) : Bool := !!decide (a1 < (8 : Int))
def sha_mix_l2_f_2 (a0 : List Int) (a1 : Int) (a2 : List Int) : List Int := a2.set a1.toNat (IntKind.u32.wrap (a2.getD a1.toNat (dflt TC.u32) + a0.getD a1.toNat (dflt TC.u32)))
def sha_mix_l2_next (x : sha_mix_l2_X) : sha_mix_l2_X := (x.1, IntKind.i64.wrap (x.2.1 + (1 : Int)), sha_mix_l2_f_2 x.1 x.2.1 x.2.2)
def sha_mix_l2_goes (x : sha_mix_l2_X) : Cnd := some ((sha_mix_l2_f_k0 x.1 x.2.1 x.2.2))
def sha_mix_l2_psA (x : sha_mix_l2_X) : List Prop := [((sha_mix_l2_f_k0 x.1 x.2.1 x.2.2) = true → (0 : Int) ≤ x.2.1 ∧ x.2.1 < (8 : Int)), ((sha_mix_l2_f_k0 x.1 x.2.1 x.2.2) = true → (0 : Int) ≤ x.2.1 ∧ x.2.1 < (8 : Int)), ((sha_mix_l2_f_k0 x.1 x.2.1 x.2.2) = true → x.2.1.toNat < (8 : Nat)), ((sha_mix_l2_f_k0 x.1 x.2.1 x.2.2) = true → (0 : Int) ≤ x.2.1 ∧ x.2.1 < (8 : Int)), ((sha_mix_l2_f_k0 x.1 x.2.1 x.2.2) = true → x.2.1.toNat < (8 : Nat))]
def sha_mix_l2_ps (x : sha_mix_l2_X) : List Prop := [((sha_mix_l2_f_k0 x.1 x.2.1 x.2.2) = true → (0 : Int) ≤ x.2.1 ∧ x.2.1 < (8 : Int))]
def sha_mix_l2_outs (x : sha_mix_l2_X) : Outs := [(some 2, some (!decide (x.2.1 < (8 : Int))), ⟨117, 3, [], [(0, some (.rcd 86 [.av .u32 8 x.2.2]))]⟩)]
def sha_mix_l2_fuel (x : sha_mix_l2_X) : Nat := ((8 : Int) - x.2.1).toNat
def sha_mix_l2_run (x : sha_mix_l2_X) : sha_mix_l2_X := iterX sha_mix_l2_next sha_mix_l2_goes (sha_mix_l2_fuel x) x
theorem sha_mix_l2_ev (a0 : List Int) (a1 : Int) (a2 : List Int) : roundE (envT Css sha_mix_l0_L) 9 (loopAt Tryd.prog 41 2) sha_mix_l2_S (sha_mix_l2_T (a0, a1, a2)) = some (sha_mix_l2_psA (a0, a1, a2), sha_mix_l2_outs (a0, a1, a2), sha_mix_l2_goes (a0, a1, a2), sha_mix_l2_T (sha_mix_l2_next (a0, a1, a2))) := by kernel_rfl
theorem sha_mix_l2_hA (a0 : List Int) (a1 : Int) (a2 : List Int) (hp : ∀ p ∈ sha_mix_l2_ps (a0, a1, a2), p) : ∀ p ∈ sha_mix_l2_psA (a0, a1, a2), p := by
 have n0 : ((sha_mix_l2_f_k0 a0 a1 a2) = true → (0 : Int) ≤ a1 ∧ a1 < (8 : Int)) := N0 hp
 have n2 : ((sha_mix_l2_f_k0 a0 a1 a2) = true → a1.toNat < (8 : Nat)) := by intro h0; have g := n0 h0; omega
 exact (needs_cons n0 (needs_cons n0 (needs_cons n2 (needs_cons n0 (needs_cons n2 needs_nil)))))
noncomputable def sha_mix_l2_row := rowL (envT Css sha_mix_l0_L) (loopAt Tryd.prog 41 2) sha_mix_l2_S sha_mix_l2_E sha_mix_l2_un sha_mix_l2_fuel sha_mix_l2_next sha_mix_l2_goes sha_mix_l2_ps sha_mix_l2_outs
theorem sha_mix_l2_rok : ∀ s b ps outs, sha_mix_l2_row s = some (b, ps, outs) → Wf s ⟨ps, outs, none⟩ ∧ LoopOk (envT C0 L0) b s ps outs :=
 rowP_ok (T := sha_mix_l2_T) Css_ok sha_mix_l0_Lok (u := 9) (by kernel_rfl) (by decide) (fun ⟨a0, a1, a2⟩ => sha_mix_l2_ev a0 a1 a2) (fun ⟨a0, a1, a2⟩ => sha_mix_l2_hA a0 a1 a2) sha_mix_l2_unok (fun _ => okOuts_ok (n := 117) rfl) fun _ _ => rfl
noncomputable def sha_mix_l2_L := addLp 2 sha_mix_l2_row sha_mix_l0_L
theorem sha_mix_l2_Lok : LpOk sha_mix_l2_L := addLp_ok sha_mix_l2_rok sha_mix_l0_Lok
def sha_mix_k0 (a0 : List Int) (a1 : List UInt8) : sha_mix_l0_X := sha_mix_l0_run (a0.getD (0 : Nat) (dflt TC.u32), a0.getD (1 : Nat) (dflt TC.u32), a0.getD (2 : Nat) (dflt TC.u32), a0.getD (3 : Nat) (dflt TC.u32), a0.getD (4 : Nat) (dflt TC.u32), a0.getD (5 : Nat) (dflt TC.u32), a0.getD (6 : Nat) (dflt TC.u32), a0.getD (7 : Nat) (dflt TC.u32), sha_spread_0 a1, (0 : Int))
def sha_mix_0 (a0 : List Int) (a1 : List UInt8) : List Int := (sha_mix_l2_run ([(sha_mix_k0 a0 a1).fst, (sha_mix_k0 a0 a1).snd.fst, (sha_mix_k0 a0 a1).snd.snd.fst, (sha_mix_k0 a0 a1).snd.snd.snd.fst, (sha_mix_k0 a0 a1).snd.snd.snd.snd.fst, (sha_mix_k0 a0 a1).snd.snd.snd.snd.snd.fst, (sha_mix_k0 a0 a1).snd.snd.snd.snd.snd.snd.fst, (sha_mix_k0 a0 a1).snd.snd.snd.snd.snd.snd.snd.fst], (0 : Int), a0)).snd.snd
def sha_mix_r (a0 : List Int) (a1 : List UInt8) : A := .av .u32 8 (sha_mix_0 a0 a1)
def sha_mix_o (_a0 : List Int) (_a1 : List UInt8) : Objs := []
def sha_mix_ps (a0 : List Int) (a1 : List UInt8) : List Prop := [(needX sha_spread_l0_next sha_spread_l0_goes sha_spread_l0_ps (16 : Nat) ((0 : Int), a1, [(0 : Int), (0 : Int), (0 : Int), (0 : Int), (0 : Int), (0 : Int), (0 : Int), (0 : Int), (0 : Int), (0 : Int), (0 : Int), (0 : Int), (0 : Int), (0 : Int), (0 : Int), (0 : Int), (0 : Int), (0 : Int), (0 : Int), (0 : Int), (0 : Int), (0 : Int), (0 : Int), (0 : Int), (0 : Int), (0 : Int), (0 : Int), (0 : Int), (0 : Int), (0 : Int), (0 : Int), (0 : Int), (0 : Int), (0 : Int), (0 : Int), (0 : Int), (0 : Int), (0 : Int), (0 : Int), (0 : Int), (0 : Int), (0 : Int), (0 : Int), (0 : Int), (0 : Int), (0 : Int), (0 : Int), (0 : Int), (0 : Int), (0 : Int), (0 : Int), (0 : Int), (0 : Int), (0 : Int), (0 : Int), (0 : Int), (0 : Int), (0 : Int), (0 : Int), (0 : Int), (0 : Int), (0 : Int), (0 : Int), (0 : Int)])), (needX sha_spread_l2_next sha_spread_l2_goes sha_spread_l2_ps (48 : Nat) ((16 : Int), (sha_spread_l0_run ((0 : Int), a1, [(0 : Int), (0 : Int), (0 : Int), (0 : Int), (0 : Int), (0 : Int), (0 : Int), (0 : Int), (0 : Int), (0 : Int), (0 : Int), (0 : Int), (0 : Int), (0 : Int), (0 : Int), (0 : Int), (0 : Int), (0 : Int), (0 : Int), (0 : Int), (0 : Int), (0 : Int), (0 : Int), (0 : Int), (0 : Int), (0 : Int), (0 : Int), (0 : Int), (0 : Int), (0 : Int), (0 : Int), (0 : Int), (0 : Int), (0 : Int), (0 : Int), (0 : Int), (0 : Int), (0 : Int), (0 : Int), (0 : Int), (0 : Int), (0 : Int), (0 : Int), (0 : Int), (0 : Int), (0 : Int), (0 : Int), (0 : Int), (0 : Int), (0 : Int), (0 : Int), (0 : Int), (0 : Int), (0 : Int), (0 : Int), (0 : Int), (0 : Int), (0 : Int), (0 : Int), (0 : Int), (0 : Int), (0 : Int), (0 : Int), (0 : Int)])).snd.snd)), (needX sha_mix_l0_next sha_mix_l0_goes sha_mix_l0_ps (64 : Nat) (a0.getD (0 : Nat) (dflt TC.u32), a0.getD (1 : Nat) (dflt TC.u32), a0.getD (2 : Nat) (dflt TC.u32), a0.getD (3 : Nat) (dflt TC.u32), a0.getD (4 : Nat) (dflt TC.u32), a0.getD (5 : Nat) (dflt TC.u32), a0.getD (6 : Nat) (dflt TC.u32), a0.getD (7 : Nat) (dflt TC.u32), sha_spread_0 a1, (0 : Int))), (needX sha_mix_l2_next sha_mix_l2_goes sha_mix_l2_ps (8 : Nat) ([(sha_mix_k0 a0 a1).fst, (sha_mix_k0 a0 a1).snd.fst, (sha_mix_k0 a0 a1).snd.snd.fst, (sha_mix_k0 a0 a1).snd.snd.snd.fst, (sha_mix_k0 a0 a1).snd.snd.snd.snd.fst, (sha_mix_k0 a0 a1).snd.snd.snd.snd.snd.fst, (sha_mix_k0 a0 a1).snd.snd.snd.snd.snd.snd.fst, (sha_mix_k0 a0 a1).snd.snd.snd.snd.snd.snd.snd.fst], (0 : Int), a0))]
theorem sha_mix_ev (a0 : List Int) (a1 : List UInt8) : evF (envT Css sha_mix_l2_L) 9 41 [.av .u32 8 a0, .av .u8 64 a1] 0 [] = some (1, sha_mix_r a0 a1, 0, sha_mix_o a0 a1, [(needX sha_spread_l0_next sha_spread_l0_goes sha_spread_l0_ps (16 : Nat) ((0 : Int), a1, [(0 : Int), (0 : Int), (0 : Int), (0 : Int), (0 : Int), (0 : Int), (0 : Int), (0 : Int), (0 : Int), (0 : Int), (0 : Int), (0 : Int), (0 : Int), (0 : Int), (0 : Int), (0 : Int), (0 : Int), (0 : Int), (0 : Int), (0 : Int), (0 : Int), (0 : Int), (0 : Int), (0 : Int), (0 : Int), (0 : Int), (0 : Int), (0 : Int), (0 : Int), (0 : Int), (0 : Int), (0 : Int), (0 : Int), (0 : Int), (0 : Int), (0 : Int), (0 : Int), (0 : Int), (0 : Int), (0 : Int), (0 : Int), (0 : Int), (0 : Int), (0 : Int), (0 : Int), (0 : Int), (0 : Int), (0 : Int), (0 : Int), (0 : Int), (0 : Int), (0 : Int), (0 : Int), (0 : Int), (0 : Int), (0 : Int), (0 : Int), (0 : Int), (0 : Int), (0 : Int), (0 : Int), (0 : Int), (0 : Int), (0 : Int)])), (needX sha_spread_l2_next sha_spread_l2_goes sha_spread_l2_ps (48 : Nat) ((16 : Int), (sha_spread_l0_run ((0 : Int), a1, [(0 : Int), (0 : Int), (0 : Int), (0 : Int), (0 : Int), (0 : Int), (0 : Int), (0 : Int), (0 : Int), (0 : Int), (0 : Int), (0 : Int), (0 : Int), (0 : Int), (0 : Int), (0 : Int), (0 : Int), (0 : Int), (0 : Int), (0 : Int), (0 : Int), (0 : Int), (0 : Int), (0 : Int), (0 : Int), (0 : Int), (0 : Int), (0 : Int), (0 : Int), (0 : Int), (0 : Int), (0 : Int), (0 : Int), (0 : Int), (0 : Int), (0 : Int), (0 : Int), (0 : Int), (0 : Int), (0 : Int), (0 : Int), (0 : Int), (0 : Int), (0 : Int), (0 : Int), (0 : Int), (0 : Int), (0 : Int), (0 : Int), (0 : Int), (0 : Int), (0 : Int), (0 : Int), (0 : Int), (0 : Int), (0 : Int), (0 : Int), (0 : Int), (0 : Int), (0 : Int), (0 : Int), (0 : Int), (0 : Int), (0 : Int)])).snd.snd)), (loopAt Tryd.prog (41 : FuncId) (0 : Nat) = loopAt Tryd.prog (41 : FuncId) (0 : Nat)), (needX sha_mix_l0_next sha_mix_l0_goes sha_mix_l0_ps (64 : Nat) (a0.getD (0 : Nat) (dflt TC.u32), a0.getD (1 : Nat) (dflt TC.u32), a0.getD (2 : Nat) (dflt TC.u32), a0.getD (3 : Nat) (dflt TC.u32), a0.getD (4 : Nat) (dflt TC.u32), a0.getD (5 : Nat) (dflt TC.u32), a0.getD (6 : Nat) (dflt TC.u32), a0.getD (7 : Nat) (dflt TC.u32), sha_spread_0 a1, (0 : Int))), (loopAt Tryd.prog (41 : FuncId) (2 : Nat) = loopAt Tryd.prog (41 : FuncId) (2 : Nat)), (needX sha_mix_l2_next sha_mix_l2_goes sha_mix_l2_ps (8 : Nat) ([(sha_mix_k0 a0 a1).fst, (sha_mix_k0 a0 a1).snd.fst, (sha_mix_k0 a0 a1).snd.snd.fst, (sha_mix_k0 a0 a1).snd.snd.snd.fst, (sha_mix_k0 a0 a1).snd.snd.snd.snd.fst, (sha_mix_k0 a0 a1).snd.snd.snd.snd.snd.fst, (sha_mix_k0 a0 a1).snd.snd.snd.snd.snd.snd.fst, (sha_mix_k0 a0 a1).snd.snd.snd.snd.snd.snd.snd.fst], (0 : Int), a0))]) := by kernel_rfl
theorem sha_mix_c (a0 : List Int) (a1 : List UInt8) (hp : ∀ p ∈ sha_mix_ps a0 a1, p) : CallOk Tryd.prog 41 [.av .u32 8 a0, .av .u8 64 a1] 0 [] 1 (sha_mix_r a0 a1) 0 (sha_mix_o a0 a1) := by
 have n0 := N0 hp
 have n1 := N0 (N1 hp)
 have n3 := N0 (N1 (N1 hp))
 have n5 := N0 (N1 (N1 (N1 hp)))
 exact evF_ok (envP_ok Css_ok sha_mix_l2_Lok) (sha_mix_ev a0 a1) (needs_cons n0 (needs_cons n1 (needs_cons rfl (needs_cons n3 (needs_cons rfl (needs_cons n5 needs_nil))))))
noncomputable def Csb := Css
theorem Csb_ok : COk Tryd.prog Csb := Css_ok
end Go.Proofs.YtkknpeeccejppaaDoor
namespace Go.Proofs.YtkknpeeccejppaaDoor
open Go.RowKit
abbrev r04_block_l0_X : Type := Int × (List Int) × (List Int)
def r04_block_l0_T (x : r04_block_l0_X) : St := ⟨116, 5, [(5, .sq 4), (6, .own 3 0), (7, .v (.int .i64 x.1))], [(3, some (.rcd 86 [.av .u32 8 x.2.1])), (4, some (.arr 66 1 (.ty .u32 x.2.2)))]⟩
def r04_block_l0_un : St → Option r04_block_l0_X
 | ⟨116, 5, [(5, .sq 4), (6, .own 3 0), (7, .v (.int .i64 z0))], [(3, some (.rcd 86 [.av .u32 8 z1])), (4, some (.arr 66 1 (.ty .u32 z2)))]⟩ => some (z0, z1, z2)
 | _ => none
theorem r04_block_l0_unok : ∀ s x, r04_block_l0_un s = some x → s = r04_block_l0_T x := fun s x h => by
 unfold r04_block_l0_un at h
 split at h
 ·cases h; rfl
 ·cases h
def r04_block_l0_S : Shape := ⟨4, 5, [5, 6, 7], [], [(3, 3), (4, 4)], [3, 4], [], [3, 4]⟩
def r04_block_l0_E : Entry := ⟨[], [(3, 3), (2, 4)], [5, 6, 7], [3, 2]⟩
def r04_block_l0_f_k1 (a0 : Int) (_a1 : List Int) (_a2 : List Int) : Bool := !!decide (a0 < (64 : Int))
def r04_block_l0_f_k0 (a0 : Int) (a1 : List Int) (a2 : List Int) : Int := IntKind.u32.wrap (IntKind.u32.wrap (IntKind.u32.wrap (IntKind.u32.wrap (a1.getD (7 : Nat) (dflt TC.u32) + IntKind.u32.wrap (↑(BitVec.ofInt (32 : Nat) (IntKind.u32.wrap (↑(BitVec.ofInt (32 : Nat) (r04_turn_0 (a1.getD (4 : Nat) (dflt TC.u32)) (6 : Int)) ^^^ BitVec.ofInt (32 : Nat) (r04_turn_0 (a1.getD (4 : Nat) (dflt TC.u32)) (11 : Int))).toNat : Int)) ^^^ BitVec.ofInt (32 : Nat) (r04_turn_0 (a1.getD (4 : Nat) (dflt TC.u32)) (25 : Int))).toNat : Int)) + IntKind.u32.wrap (↑(BitVec.ofInt (32 : Nat) (IntKind.u32.wrap (↑(BitVec.ofInt (32 : Nat) (a1.getD (4 : Nat) (dflt TC.u32)) &&& BitVec.ofInt (32 : Nat) (a1.getD (5 : Nat) (dflt TC.u32))).toNat : Int)) ^^^ BitVec.ofInt (32 : Nat) (IntKind.u32.wrap (↑(BitVec.ofInt (32 : Nat) (IntKind.u32.wrap (↑(BitVec.ofInt (32 : Nat) (4294967295 : Int) ^^^ BitVec.ofInt (32 : Nat) (a1.getD (4 : Nat) (dflt TC.u32))).toNat : Int)) &&& BitVec.ofInt (32 : Nat) (a1.getD (6 : Nat) (dflt TC.u32))).toNat : Int))).toNat : Int)) + r04_k_0 a0) + a2.getD a0.toNat (dflt TC.u32))
def r04_block_l0_f_1 (a0 : Int) (a1 : List Int) (a2 : List Int) : List Int := (((((((a1.set (0 : Nat) (IntKind.u32.wrap ((r04_block_l0_f_k0 a0 a1 a2) + IntKind.u32.wrap (IntKind.u32.wrap (↑(BitVec.ofInt (32 : Nat) (IntKind.u32.wrap (↑(BitVec.ofInt (32 : Nat) (r04_turn_0 (a1.getD (0 : Nat) (dflt TC.u32)) (2 : Int)) ^^^ BitVec.ofInt (32 : Nat) (r04_turn_0 (a1.getD (0 : Nat) (dflt TC.u32)) (13 : Int))).toNat : Int)) ^^^ BitVec.ofInt (32 : Nat) (r04_turn_0 (a1.getD (0 : Nat) (dflt TC.u32)) (22 : Int))).toNat : Int) + IntKind.u32.wrap (↑(BitVec.ofInt (32 : Nat) (IntKind.u32.wrap (↑(BitVec.ofInt (32 : Nat) (IntKind.u32.wrap (↑(BitVec.ofInt (32 : Nat) (a1.getD (0 : Nat) (dflt TC.u32)) &&& BitVec.ofInt (32 : Nat) (a1.getD (1 : Nat) (dflt TC.u32))).toNat : Int)) ^^^ BitVec.ofInt (32 : Nat) (IntKind.u32.wrap (↑(BitVec.ofInt (32 : Nat) (a1.getD (0 : Nat) (dflt TC.u32)) &&& BitVec.ofInt (32 : Nat) (a1.getD (2 : Nat) (dflt TC.u32))).toNat : Int))).toNat : Int)) ^^^ BitVec.ofInt (32 : Nat) (IntKind.u32.wrap (↑(BitVec.ofInt (32 : Nat) (a1.getD (1 : Nat) (dflt TC.u32)) &&& BitVec.ofInt (32 : Nat) (a1.getD (2 : Nat) (dflt TC.u32))).toNat : Int))).toNat : Int))))).set (1 : Nat) (a1.getD (0 : Nat) (dflt TC.u32))).set (2 : Nat) (a1.getD (1 : Nat) (dflt TC.u32))).set (3 : Nat) (a1.getD (2 : Nat) (dflt TC.u32))).set (4 : Nat) (IntKind.u32.wrap (a1.getD (3 : Nat) (dflt TC.u32) + (r04_block_l0_f_k0 a0 a1 a2)))).set (5 : Nat) (a1.getD (4 : Nat) (dflt TC.u32))).set (6 : Nat) (a1.getD (5 : Nat) (dflt TC.u32))).set (7 : Nat) (a1.getD (6 : Nat) (dflt TC.u32))
def r04_block_l0_next (x : r04_block_l0_X) : r04_block_l0_X := (IntKind.i64.wrap (x.1 + (1 : Int)), r04_block_l0_f_1 x.1 x.2.1 x.2.2, x.2.2)
def r04_block_l0_goes (x : r04_block_l0_X) : Cnd := some ((r04_block_l0_f_k1 x.1 x.2.1 x.2.2))
def r04_block_l0_psA (x : r04_block_l0_X) : List Prop := [((r04_block_l0_f_k1 x.1 x.2.1 x.2.2) = true → (0 : Int) ≤ x.1 ∧ x.1 < (64 : Int)), ((r04_block_l0_f_k1 x.1 x.2.1 x.2.2) = true → (0 : Int) ≤ x.1 ∧ x.1 < (↑x.2.2.length : Int)), ((r04_block_l0_f_k1 x.1 x.2.1 x.2.2) = true → x.1.toNat < x.2.2.length)]
def r04_block_l0_ps (x : r04_block_l0_X) : List Prop := [((r04_block_l0_f_k1 x.1 x.2.1 x.2.2) = true → (0 : Int) ≤ x.1 ∧ x.1 < (64 : Int)), ((r04_block_l0_f_k1 x.1 x.2.1 x.2.2) = true → (0 : Int) ≤ x.1 ∧ x.1 < (↑x.2.2.length : Int))]
def r04_block_l0_outs (x : r04_block_l0_X) : Outs := [(some 0, some (!decide (x.1 < (64 : Int))), ⟨116, 5, [], [(3, some (.rcd 86 [.av .u32 8 x.2.1])), (4, some (.arr 66 1 (.ty .u32 x.2.2)))]⟩)]
def r04_block_l0_fuel (x : r04_block_l0_X) : Nat := ((64 : Int) - x.1).toNat
def r04_block_l0_run (x : r04_block_l0_X) : r04_block_l0_X := iterX r04_block_l0_next r04_block_l0_goes (r04_block_l0_fuel x) x
theorem r04_block_l0_ev (a0 : Int) (a1 : List Int) (a2 : List Int) : roundE (envT Csw L0) 9 (loopAt Tryd.prog 26 0) r04_block_l0_S (r04_block_l0_T (a0, a1, a2)) = some (r04_block_l0_psA (a0, a1, a2), r04_block_l0_outs (a0, a1, a2), r04_block_l0_goes (a0, a1, a2), r04_block_l0_T (r04_block_l0_next (a0, a1, a2))) := by kernel_rfl
theorem r04_block_l0_hA (a0 : Int) (a1 : List Int) (a2 : List Int) (hp : ∀ p ∈ r04_block_l0_ps (a0, a1, a2), p) : ∀ p ∈ r04_block_l0_psA (a0, a1, a2), p := by
 have n0 := N0 hp
 have n1 : ((r04_block_l0_f_k1 a0 a1 a2) = true → (0 : Int) ≤ a0 ∧ a0 < (↑a2.length : Int)) := N0 (N1 hp)
 have n2 : ((r04_block_l0_f_k1 a0 a1 a2) = true → a0.toNat < a2.length) := by intro h0; have g := n1 h0; omega
 exact (needs_cons n0 (needs_cons n1 (needs_cons n2 needs_nil)))
noncomputable def r04_block_l0_row := rowL (envT Csw L0) (loopAt Tryd.prog 26 0) r04_block_l0_S r04_block_l0_E r04_block_l0_un r04_block_l0_fuel r04_block_l0_next r04_block_l0_goes r04_block_l0_ps r04_block_l0_outs
theorem r04_block_l0_rok : ∀ s b ps outs, r04_block_l0_row s = some (b, ps, outs) → Wf s ⟨ps, outs, none⟩ ∧ LoopOk (envT C0 L0) b s ps outs :=
 rowP_ok (T := r04_block_l0_T) Csw_ok L0_ok (u := 9) (by kernel_rfl) (by decide) (fun ⟨a0, a1, a2⟩ => r04_block_l0_ev a0 a1 a2) (fun ⟨a0, a1, a2⟩ => r04_block_l0_hA a0 a1 a2) r04_block_l0_unok (fun _ => okOuts_ok (n := 116) rfl) fun _ _ => rfl
noncomputable def r04_block_l0_L := addLp 0 r04_block_l0_row L0
theorem r04_block_l0_Lok : LpOk r04_block_l0_L := addLp_ok r04_block_l0_rok L0_ok
abbrev r04_block_l2_X : Type := Int × (List Int) × (List Int)
def r04_block_l2_T (x : r04_block_l2_X) : St := ⟨116, 5, [(2, .own 0 0), (6, .own 3 0), (10, .v (.int .i64 x.1))], [(0, some (.rcd 86 [.av .u32 8 x.2.1])), (3, some (.rcd 86 [.av .u32 8 x.2.2]))]⟩
def r04_block_l2_un : St → Option r04_block_l2_X
 | ⟨116, 5, [(2, .own 0 0), (6, .own 3 0), (10, .v (.int .i64 z0))], [(0, some (.rcd 86 [.av .u32 8 z1])), (3, some (.rcd 86 [.av .u32 8 z2]))]⟩ => some (z0, z1, z2)
 | _ => none
theorem r04_block_l2_unok : ∀ s x, r04_block_l2_un s = some x → s = r04_block_l2_T x := fun s x h => by
 unfold r04_block_l2_un at h
 split at h
 ·cases h; rfl
 ·cases h
def r04_block_l2_S : Shape := ⟨5, 5, [2, 6, 10], [], [(0, 0), (3, 3)], [0, 3], [], [0, 3]⟩
def r04_block_l2_E : Entry := ⟨[], [(0, 0), (3, 3)], [2, 6, 10], [0, 3]⟩
def r04_block_l2_f_k0 (a0 : Int) (_a1 : List Int) (_a2 : List Int) : Bool := !!decide (a0 < (8 : Int))
def r04_block_l2_f_1 (a0 : Int) (a1 : List Int) (a2 : List Int) : List Int := a1.set a0.toNat (IntKind.u32.wrap (a1.getD a0.toNat (dflt TC.u32) + a2.getD a0.toNat (dflt TC.u32)))
def r04_block_l2_next (x : r04_block_l2_X) : r04_block_l2_X := (IntKind.i64.wrap (x.1 + (1 : Int)), r04_block_l2_f_1 x.1 x.2.1 x.2.2, x.2.2)
def r04_block_l2_goes (x : r04_block_l2_X) : Cnd := some ((r04_block_l2_f_k0 x.1 x.2.1 x.2.2))
def r04_block_l2_psA (x : r04_block_l2_X) : List Prop := [((r04_block_l2_f_k0 x.1 x.2.1 x.2.2) = true → (0 : Int) ≤ x.1 ∧ x.1 < (8 : Int)), ((r04_block_l2_f_k0 x.1 x.2.1 x.2.2) = true → x.1.toNat < (8 : Nat)), ((r04_block_l2_f_k0 x.1 x.2.1 x.2.2) = true → (0 : Int) ≤ x.1 ∧ x.1 < (8 : Int)), ((r04_block_l2_f_k0 x.1 x.2.1 x.2.2) = true → x.1.toNat < (8 : Nat)), ((r04_block_l2_f_k0 x.1 x.2.1 x.2.2) = true → (0 : Int) ≤ x.1 ∧ x.1 < (8 : Int)), ((r04_block_l2_f_k0 x.1 x.2.1 x.2.2) = true → x.1.toNat < (8 : Nat))]
def r04_block_l2_ps (x : r04_block_l2_X) : List Prop := [((r04_block_l2_f_k0 x.1 x.2.1 x.2.2) = true → (0 : Int) ≤ x.1 ∧ x.1 < (8 : Int))]
def r04_block_l2_outs (x : r04_block_l2_X) : Outs := [(some 2, some (!decide (x.1 < (8 : Int))), ⟨116, 5, [], [(0, some (.rcd 86 [.av .u32 8 x.2.1])), (3, some (.rcd 86 [.av .u32 8 x.2.2]))]⟩)]
def r04_block_l2_fuel (x : r04_block_l2_X) : Nat := ((8 : Int) - x.1).toNat
def r04_block_l2_run (x : r04_block_l2_X) : r04_block_l2_X := iterX r04_block_l2_next r04_block_l2_goes (r04_block_l2_fuel x) x
theorem r04_block_l2_ev (a0 : Int) (a1 : List Int) (a2 : List Int) : roundE (envT Csw r04_block_l0_L) 9 (loopAt Tryd.prog 26 2) r04_block_l2_S (r04_block_l2_T (a0, a1, a2)) = some (r04_block_l2_psA (a0, a1, a2), r04_block_l2_outs (a0, a1, a2), r04_block_l2_goes (a0, a1, a2), r04_block_l2_T (r04_block_l2_next (a0, a1, a2))) := by kernel_rfl
theorem r04_block_l2_hA (a0 : Int) (a1 : List Int) (a2 : List Int) (hp : ∀ p ∈ r04_block_l2_ps (a0, a1, a2), p) : ∀ p ∈ r04_block_l2_psA (a0, a1, a2), p := by
 have n0 : ((r04_block_l2_f_k0 a0 a1 a2) = true → (0 : Int) ≤ a0 ∧ a0 < (8 : Int)) := N0 hp
 have n1 : ((r04_block_l2_f_k0 a0 a1 a2) = true → a0.toNat < (8 : Nat)) := by intro h0; have g := n0 h0; omega
 exact (needs_cons n0 (needs_cons n1 (needs_cons n0 (needs_cons n1 (needs_cons n0 (needs_cons n1 needs_nil))))))
noncomputable def r04_block_l2_row := rowL (envT Csw r04_block_l0_L) (loopAt Tryd.prog 26 2) r04_block_l2_S r04_block_l2_E r04_block_l2_un r04_block_l2_fuel r04_block_l2_next r04_block_l2_goes r04_block_l2_ps r04_block_l2_outs
theorem r04_block_l2_rok : ∀ s b ps outs, r04_block_l2_row s = some (b, ps, outs) → Wf s ⟨ps, outs, none⟩ ∧ LoopOk (envT C0 L0) b s ps outs :=
 rowP_ok (T := r04_block_l2_T) Csw_ok r04_block_l0_Lok (u := 9) (by kernel_rfl) (by decide) (fun ⟨a0, a1, a2⟩ => r04_block_l2_ev a0 a1 a2) (fun ⟨a0, a1, a2⟩ => r04_block_l2_hA a0 a1 a2) r04_block_l2_unok (fun _ => okOuts_ok (n := 116) rfl) fun _ _ => rfl
noncomputable def r04_block_l2_L := addLp 2 r04_block_l2_row r04_block_l0_L
theorem r04_block_l2_Lok : LpOk r04_block_l2_L := addLp_ok r04_block_l2_rok r04_block_l0_Lok
def r04_block_0 (a0 : List Int) (a1 : List UInt8) : List Int := (r04_block_l2_run ((0 : Int), a0, (r04_block_l0_run ((0 : Int), a0, r04_words_0 a1)).snd.fst)).snd.fst
def r04_block_r (a0 : List Int) (a1 : List UInt8) : A := .av .u32 8 (r04_block_0 a0 a1)
def r04_block_o (_a0 : List Int) (_a1 : List UInt8) : Objs := []
def r04_block_ps (a0 : List Int) (a1 : List UInt8) : List Prop := [(needX r04_words_l0_next r04_words_l0_goes r04_words_l0_ps (64 : Nat) (a1, (0 : Int), [])), (needX r04_block_l0_next r04_block_l0_goes r04_block_l0_ps (64 : Nat) ((0 : Int), a0, r04_words_0 a1)), (needX r04_block_l2_next r04_block_l2_goes r04_block_l2_ps (8 : Nat) ((0 : Int), a0, (r04_block_l0_run ((0 : Int), a0, r04_words_0 a1)).snd.fst))]
theorem r04_block_ev (a0 : List Int) (a1 : List UInt8) : evF (envT Csw r04_block_l2_L) 9 26 [.av .u32 8 a0, valA .bytes a1] 0 [] = some (1, r04_block_r a0 a1, 0, r04_block_o a0 a1, [(needX r04_words_l0_next r04_words_l0_goes r04_words_l0_ps (64 : Nat) (a1, (0 : Int), [])), (loopAt Tryd.prog (26 : FuncId) (0 : Nat) = loopAt Tryd.prog (26 : FuncId) (0 : Nat)), (needX r04_block_l0_next r04_block_l0_goes r04_block_l0_ps (64 : Nat) ((0 : Int), a0, r04_words_0 a1)), (loopAt Tryd.prog (26 : FuncId) (2 : Nat) = loopAt Tryd.prog (26 : FuncId) (2 : Nat)), (needX r04_block_l2_next r04_block_l2_goes r04_block_l2_ps (8 : Nat) ((0 : Int), a0, (r04_block_l0_run ((0 : Int), a0, r04_words_0 a1)).snd.fst))]) := by kernel_rfl
theorem r04_block_c (a0 : List Int) (a1 : List UInt8) (hp : ∀ p ∈ r04_block_ps a0 a1, p) : CallOk Tryd.prog 26 [.av .u32 8 a0, valA .bytes a1] 0 [] 1 (r04_block_r a0 a1) 0 (r04_block_o a0 a1) := by
 have n0 := N0 hp
 have n2 := N0 (N1 hp)
 have n4 := N0 (N1 (N1 hp))
 exact evF_ok (envP_ok Csw_ok r04_block_l2_Lok) (r04_block_ev a0 a1) (needs_cons n0 (needs_cons rfl (needs_cons n2 (needs_cons rfl (needs_cons n4 needs_nil)))))
noncomputable def Csc := Csw
theorem Csc_ok : COk Tryd.prog Csc := Csw_ok
end Go.Proofs.YtkknpeeccejppaaDoor
