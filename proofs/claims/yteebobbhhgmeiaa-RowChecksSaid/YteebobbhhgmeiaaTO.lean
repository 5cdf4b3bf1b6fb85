/- A symbolic run over typed data, part O: objects numbered anew; a function. -/
import Derived.Test.YteebobbhhgmeiaaTN
namespace Go.Proofs.Yteebobbhhgmeiaa
open Go.RowKit

/-! ### numbers anew; what has none is forgotten -/
mutual
def A.pk (ρ : Nat → Option Nat) : A → A
  | .own i off => match ρ i with
    | some j => .own j off
    | none => .dead
  | .ownx i base len k => match ρ i with
    | some j => .ownx j base len k
    | none => .dead
  | .sq i => match ρ i with
    | some j => .sq j
    | none => .dead
  | .vw i size lo n full => match ρ i with
    | some j => .vw j size lo n full
    | none => .dead
  | .el i k size off => match ρ i with
    | some j => .el j k size off
    | none => .dead
  | .mp i => match ρ i with
    | some j => .mp j
    | none => .dead
  | .fn f first caps => .fn f (pkL ρ first) (pkL ρ caps)
  | .agg xs => .agg (pkL ρ xs)
  | .tup xs => .tup (pkL ρ xs)
  | .ref l => .ref (pkL ρ l)
  | .opt u b x => .opt u b (x.pk ρ)
  | .v x => .v x
  | .sl c l => .sl c l
  | .nl => .nl
  | .it q vs => .it q vs
  | .dead => .dead
def pkL (ρ : Nat → Option Nat) : List A → List A
  | [] => []
  | x :: r => x.pk ρ :: pkL ρ r
end
theorem pkL_get {ρ : Nat → Option Nat} : ∀ {l : List A} {j : Nat} {x : A}, (pkL ρ l)[j]? = some x → ∃ y, l[j]? = some y ∧ x = y.pk ρ
  | [], j, x, h => by unfold pkL at h; cases j <;> cases h
  | y :: r, 0, x, h => by unfold pkL at h; cases h; exact ⟨y, rfl, rfl⟩
  | y :: r, j + 1, x, h => by unfold pkL at h; exact pkL_get (l := r) h
theorem pkL_length {ρ : Nat → Option Nat} : ∀ l : List A, (pkL ρ l).length = l.length
  | [] => by unfold pkL; rfl
  | y :: r => by unfold pkL; rw [List.length_cons, List.length_cons, pkL_length r]
theorem enc_pk (ρ : Nat → Option Nat) (c : TC) (d : U c) : ∀ x ∈ enc c d, x.pk ρ = x := fun x hx => by
  have := enc_plain c d x hx
  cases x <;> first | (unfold A.pk; rfl) | exact this.elim
def Pk (ρ : Nat → Option Nat) (N : Nm) (nx : Nat) (N' : Nm) (nx' : Nat) : Prop := ∀ i j, i < nx → ρ i = some j → j < nx' ∧ N'.b j = N.b i ∧ N'.q j = N.q i
section
variable {F : Nat → Prop} {N N' : Nm} {nx nx' : Nat} {R : World} {ρ : Nat → Option Nat}
theorem Hv.pk (st : Pk ρ N nx N' nx') {x : A} {y : Value} (h : Hv F N nx R x y) : Hv F N' nx' R (x.pk ρ) y := by
  induction h with
  | v x => unfold A.pk; exact .v x
  | @sl c l a cap ad h1 h2 h3 h4 ih =>
    unfold A.pk
    refine .sl ad h1 h2 h3 (fun i d j x y hd hx hy => ?_)
    have := ih i d j x y hd hx hy
    rwa [enc_pk ρ c d x (List.mem_of_getElem? hx)] at this
  | @ref l ad h1 h2 h3 ih =>
    unfold A.pk
    refine .ref ad h1 (fun j x hx => ?_) (fun j x y hx hy => ?_)
    · obtain ⟨z, hz, rfl⟩ := pkL_get hx; exact h2 j z hz
    · obtain ⟨z, hz, rfl⟩ := pkL_get hx; exact ih j z y hz hy
  | own h =>
    unfold A.pk
    split
    · rename_i j hj
      obtain ⟨h1, h2, _⟩ := st _ _ h hj
      rw [← h2]; exact .own h1
    · exact .dead _
  | ownx h =>
    unfold A.pk
    split
    · rename_i j hj
      obtain ⟨h1, h2, _⟩ := st _ _ h hj
      rw [← h2]; exact .ownx h1
    · exact .dead _
  | sq h =>
    unfold A.pk
    split
    · rename_i j hj
      obtain ⟨h1, _, h2⟩ := st _ _ h hj
      rw [← h2]; exact .sq h1
    · exact .dead _
  | vw h h1 h2 h3 =>
    unfold A.pk
    split
    · rename_i j hj
      obtain ⟨k1, _, k2⟩ := st _ _ h hj
      exact .vw k1 h1 h2 (fun hn => by rw [k2]; exact h3 hn)
    · exact .dead _
  | el h =>
    unfold A.pk
    split
    · rename_i j hj
      obtain ⟨h1, _, h2⟩ := st _ _ h hj
      rw [← h2]; exact .el h1
    · exact .dead _
  | mp h =>
    unfold A.pk
    split
    · rename_i j hj
      obtain ⟨h1, h2, _⟩ := st _ _ h hj
      rw [← h2]; exact .mp h1
    · exact .dead _
  | nl a => unfold A.pk; exact .nl a
  | it q vs y h => unfold A.pk; exact .it q vs y h
  | fn vs us h1 _ h3 _ ih2 ih4 =>
    unfold A.pk
    exact .fn vs us (by rw [pkL_length]; exact h1) (fun j x v hx hv => by obtain ⟨z, hz, rfl⟩ := pkL_get hx; exact ih2 j z v hz hv) (by rw [pkL_length]; exact h3) (fun j x v hx hv => by obtain ⟨z, hz, rfl⟩ := pkL_get hx; exact ih4 j z v hz hv)
  | agg vs h1 _ ih => unfold A.pk; exact .agg vs (by rw [pkL_length]; exact h1) (fun j x v hx hv => by obtain ⟨z, hz, rfl⟩ := pkL_get hx; exact ih j z v hz hv)
  | tup vs h1 _ ih => unfold A.pk; exact .tup vs (by rw [pkL_length]; exact h1) (fun j x v hx hv => by obtain ⟨z, hz, rfl⟩ := pkL_get hx; exact ih j z v hz hv)
  | dead y => unfold A.pk; exact .dead y
theorem HL.pk (st : Pk ρ N nx N' nx') : ∀ {xs : List A} {vs : List Value}, HL F N nx R xs vs → HL F N' nx' R (pkL ρ xs) vs
  | [], _, h => by unfold pkL; exact h
  | x :: r, _, ⟨v, vs, h1, h2, h3⟩ => by
    unfold pkL
    exact ⟨v, vs, h1, h2.pk st, HL.pk st h3⟩
end
def Els.pk (ρ : Nat → Option Nat) : Els → Els
  | .lst cs => .lst (cs.map (pkL ρ))
  | .ty c l => .ty c l
def Ob.pk (ρ : Nat → Option Nat) : Ob → Ob
  | .box e cs => .box e (pkL ρ cs)
  | .arr e size els => .arr e size (els.pk ρ)
  | .map k v l => .map k v l
  | .sit s pos => .sit s pos
theorem pkL_enc (ρ : Nat → Option Nat) (c : TC) (d : U c) : pkL ρ (enc c d) = enc c d := by
  have : ∀ l : List A, (∀ x ∈ l, x.pk ρ = x) → pkL ρ l = l := fun l => by
    induction l with
    | nil => intro _; unfold pkL; rfl
    | cons x r ih => intro h; unfold pkL; rw [h x (List.mem_cons_self ..), ih fun y hy => h y (List.mem_cons_of_mem _ hy)]
  exact this _ (enc_pk ρ c d)
theorem valA_pk (ρ : Nat → Option Nat) (c : TC) (d : U c) : (valA c d).pk ρ = valA c d := by
  unfold valA
  cases c.isAgg with
  | true =>
    show (aggA (enc c d)).pk ρ = aggA (enc c d)
    unfold aggA
    split
    · unfold A.pk; rfl
    · unfold A.pk; rw [pkL_enc]
  | false =>
    have hp := enc_pk ρ c d
    simp only [cond_false]
    generalize enc c d = l at hp ⊢
    cases l with
    | nil => unfold A.pk; rfl
    | cons x r => exact hp x (List.mem_cons_self ..)
section
variable {F : Nat → Prop} {N N' : Nm} {nx nx' : Nat} {o o' : Objs} {R : World} {ρ : Nat → Option Nat} {i j : Nat} {ob : Ob}
theorem ObR.pk (st : Pk ρ N nx N' nx') (hi : i < nx) (hj : ρ i = some j) (h : ObR F N nx R i ob) : ObR F N' nx' R j (ob.pk ρ) := by
  obtain ⟨_, sb, sq⟩ := st i j hi hj
  cases ob with
  | box e cs =>
    obtain ⟨vs, h1, h2⟩ := h
    exact ⟨vs, h1.pk st, by rw [sb]; exact h2⟩
  | arr e size els =>
    obtain ⟨zs, h1, h2⟩ := h
    cases els with
    | lst cs =>
      have hn : (Els.pk ρ (.lst cs)).n = cs.length := by simp [Els.pk, Els.n]
      refine ⟨zs, by rw [sq, hn]; exact h1, fun k hk => ?_⟩
      rw [hn] at hk
      have := (h2 k hk).pk st
      show HL F N' nx' R (nthL (cs.map (pkL ρ)) k) _
      rw [nthL_get, List.getD_eq_getElem?_getD, List.getElem?_map]
      have h3 : (Els.lst cs).nth k = cs.getD k [] := nthL_get cs k
      rw [h3, List.getD_eq_getElem?_getD] at this
      have hk' : cs[k]? = some cs[k] := List.getElem?_eq_getElem hk
      rw [hk'] at this ⊢
      exact this
    | ty c l =>
      refine ⟨zs, by rw [sq]; exact h1, fun k hk => ?_⟩
      have := (h2 k hk).pk st
      have e : pkL ρ ((Els.ty c l).nth k) = (Els.ty c l).nth k := pkL_enc ρ c _
      rw [e] at this
      exact this
  | map k v l =>
    obtain ⟨es, cl, h1, h2, h3⟩ := h
    refine ⟨es, cl, by rw [sb]; exact h1, h2, fun j p e hp he => ⟨(h3 j p e hp he).1, ?_⟩⟩
    have := (h3 j p e hp he).2.pk st
    rwa [valA_pk] at this
  | sit s pos =>
    show R.heap[N'.b j]? = _
    rw [sb]
    exact h
theorem foot_pk (st : Pk ρ N nx N' nx') (hi : i < nx) (hj : ρ i = some j) {g : Nat} : foot N' j (ob.pk ρ) g ↔ foot N i ob g := by
  obtain ⟨_, sb, sq⟩ := st i j hi hj
  cases ob <;> simp only [foot, Ob.pk, sb, sq]
/-- The objects under other numbers. -/
theorem HRel.pk (h : HRel F N nx o R) (st : Pk ρ N nx N' nx') (ho : ∀ j ob', lookO j o' = some ob' → ∃ i ob, ρ i = some j ∧ lookO i o = some ob ∧ ob' = ob.pk ρ) : HRel F N' nx' o' R ∧ ∀ g, Foot N' o' g → Foot N o g := by
  refine ⟨⟨h.flt, fun j ob' hj => ?_, fun j ob' g hj hg => ?_, fun j k x y g hj hk hx hy => ?_⟩, fun g ⟨j, ob', hj, hg⟩ => ?_⟩
  · obtain ⟨i, ob, h1, h2, rfl⟩ := ho j ob' hj
    obtain ⟨h3, h4⟩ := h.ob i ob h2
    exact ⟨(st i j h3 h1).1, h4.pk st h3 h1⟩
  · obtain ⟨i, ob, h1, h2, rfl⟩ := ho j ob' hj
    exact h.ff i ob g h2 ((foot_pk st (h.ob i ob h2).1 h1).1 hg)
  · obtain ⟨i, ob, h1, h2, rfl⟩ := ho j x hj
    obtain ⟨i', ob', k1, k2, rfl⟩ := ho k y hk
    have := h.sep i i' ob ob' g h2 k2 ((foot_pk st (h.ob i ob h2).1 h1).1 hx) ((foot_pk st (h.ob i' ob' k2).1 k1).1 hy)
    subst this
    rw [h1] at k1
    exact Option.some.inj k1
  · obtain ⟨i, ob, h1, h2, rfl⟩ := ho j ob' hj
    exact ⟨i, ob, h2, (foot_pk st (h.ob i ob h2).1 h1).1 hg⟩
end

/-! ### by a list: those below nb keep their number -/
abbrev Ren2 := List (Nat × Nat)
def fwd : Ren2 → Nat → Option Nat
  | [], _ => none
  | (k, j) :: r, i => bif Nat.beq k i then some j else fwd r i
def bck : Ren2 → Nat → Option Nat
  | [], _ => none
  | (k, j) :: r, i => bif Nat.beq j i then some k else bck r i
def rho2 (nb : Nat) (L : Ren2) (i : Nat) : Option Nat := bif Nat.blt i nb then some i else fwd L i
def inv2 (nb : Nat) (L : Ren2) (j : Nat) : Nat := bif Nat.blt j nb then j else match bck L j with
  | some k => k
  | none => 0
/-- All new numbers lie between; no number twice. -/
def okRen (nb nx' : Nat) : Ren2 → Bool
  | [] => true
  | (k, j) :: r => Nat.ble nb k && (Nat.ble nb j && (Nat.blt j nx' && (isNone (fwd r k) && (isNone (bck r j) && okRen nb nx' r))))
theorem isNone_iff {o : Option Nat} : isNone o = true ↔ o = none := by cases o <;> simp [isNone]
theorem fwd_bck {nb nx' : Nat} : ∀ {L : Ren2} {i j : Nat}, okRen nb nx' L = true → fwd L i = some j → bck L j = some i ∧ nb ≤ i ∧ nb ≤ j ∧ j < nx'
  | [], i, j, _, h => by cases h
  | (k, m) :: r, i, j, h0, h => by
    unfold okRen at h0
    simp only [Bool.and_eq_true] at h0
    obtain ⟨a1, a2, a3, a4, a5, a6⟩ := h0
    unfold fwd at h
    cases hb : Nat.beq k i with
    | true =>
      rw [hb] at h
      cases h
      obtain rfl := Nat.eq_of_beq_eq_true hb
      refine ⟨?_, Nat.le_of_ble_eq_true a1, Nat.le_of_ble_eq_true a2, Nat.le_of_ble_eq_true a3⟩
      unfold bck
      rw [beq_self]
      rfl
    | false =>
      rw [hb] at h
      obtain ⟨h1, h2⟩ := fwd_bck a6 h
      refine ⟨?_, h2⟩
      unfold bck
      cases hm : Nat.beq m j with
      | true =>
        obtain rfl := Nat.eq_of_beq_eq_true hm
        rw [isNone_iff.1 a5] at h1
        cases h1
      | false => exact h1
/-- How the names turn. -/
def nm2 (N : Nm) (nb : Nat) (L : Ren2) : Nm := ⟨fun j => N.b (inv2 nb L j), fun j => N.q (inv2 nb L j)⟩
theorem inv_rho {nb nx' : Nat} {L : Ren2} (h0 : okRen nb nx' L = true) {i j : Nat} (h : rho2 nb L i = some j) : inv2 nb L j = i ∧ (i < nb ∧ j = i ∨ nb ≤ i ∧ nb ≤ j ∧ j < nx') := by
  unfold rho2 at h
  cases hb : Nat.blt i nb with
  | true =>
    rw [hb] at h
    cases h
    refine ⟨?_, .inl ⟨Nat.le_of_ble_eq_true hb, rfl⟩⟩
    unfold inv2
    rw [hb]
    rfl
  | false =>
    rw [hb] at h
    obtain ⟨h1, h2, h3, h4⟩ := fwd_bck h0 h
    refine ⟨?_, .inr ⟨h2, h3, h4⟩⟩
    unfold inv2
    have : Nat.blt j nb = false := by
      cases hj : Nat.blt j nb with
      | false => rfl
      | true => exact absurd (Nat.le_of_ble_eq_true hj) (by omega)
    rw [this, h1]
    rfl
theorem pk2 {N : Nm} {nb n nx' : Nat} {L : Ren2} (h0 : okRen nb nx' L = true) (hnb : nb ≤ nx') : Pk (rho2 nb L) N n (nm2 N nb L) nx' := fun i j _ hj => by
  obtain ⟨h1, h2⟩ := inv_rho h0 hj
  refine ⟨?_, by show N.b (inv2 nb L j) = _; rw [h1], by show N.q (inv2 nb L j) = _; rw [h1]⟩
  rcases h2 with ⟨h2, rfl⟩ | ⟨_, _, h2⟩
  · omega
  · exact h2
/-- Of those that have a number anew, the objects. -/
def pkNew (nb : Nat) (L : Ren2) (o : Objs) : Ren2 → Objs
  | [] => []
  | (k, j) :: r => (j, match lookO k o with
    | some ob => some (ob.pk (rho2 nb L))
    | none => none) :: pkNew nb L o r
def pkOld (nb : Nat) (L : Ren2) (o : Objs) : List Nat → Objs
  | [] => []
  | k :: r => bif Nat.blt k nb then (k, match lookO k o with
    | some ob => some (ob.pk (rho2 nb L))
    | none => none) :: pkOld nb L o r else pkOld nb L o r
theorem lookO_pkNew {nb : Nat} {L : Ren2} {o : Objs} {j : Nat} {ob' : Ob} : ∀ {r : Ren2}, lookO j (pkNew nb L o r) = some ob' → ∃ k ob, (k, j) ∈ r ∧ lookO k o = some ob ∧ ob' = ob.pk (rho2 nb L)
  | [], h => by cases h
  | (k, m) :: r, h => by
    unfold pkNew at h
    have h' : (bif Nat.beq m j then (match lookO k o with | some ob => some (ob.pk (rho2 nb L)) | none => none) else lookO j (pkNew nb L o r)) = some ob' := h
    cases hb : Nat.beq m j with
    | true =>
      rw [hb] at h'
      obtain rfl := Nat.eq_of_beq_eq_true hb
      simp only [cond_true] at h'
      split at h' <;> first | (cases h'; done) | skip
      rename_i ob hob
      cases h'
      exact ⟨k, ob, List.mem_cons_self .., hob, rfl⟩
    | false =>
      rw [hb] at h'
      obtain ⟨k', ob, h1, h2⟩ := lookO_pkNew h'
      exact ⟨k', ob, List.mem_cons_of_mem _ h1, h2⟩
theorem lookO_pkOld {nb : Nat} {L : Ren2} {o : Objs} {j : Nat} {ob' : Ob} : ∀ {r : List Nat}, lookO j (pkOld nb L o r) = some ob' → j < nb ∧ ∃ ob, lookO j o = some ob ∧ ob' = ob.pk (rho2 nb L)
  | [], h => by cases h
  | k :: r, h => by
    unfold pkOld at h
    cases hk : Nat.blt k nb with
    | false => rw [hk] at h; exact lookO_pkOld h
    | true =>
      rw [hk] at h
      have h' : (bif Nat.beq k j then (match lookO k o with | some ob => some (ob.pk (rho2 nb L)) | none => none) else lookO j (pkOld nb L o r)) = some ob' := h
      cases hb : Nat.beq k j with
      | true =>
        rw [hb] at h'
        obtain rfl := Nat.eq_of_beq_eq_true hb
        simp only [cond_true] at h'
        split at h' <;> first | (cases h'; done) | skip
        rename_i ob hob
        cases h'
        exact ⟨Nat.le_of_ble_eq_true hk, ob, hob, rfl⟩
      | false => rw [hb] at h'; exact lookO_pkOld h'
theorem keysO_pkNew {nb : Nat} {L : Ren2} {o : Objs} : ∀ {r : Ren2}, keysO (pkNew nb L o r) = r.map (·.2)
  | [] => rfl
  | (k, j) :: r => by
    show j :: keysO (pkNew nb L o r) = j :: r.map (·.2)
    rw [keysO_pkNew]
theorem keysO_pkOld {nb : Nat} {L : Ren2} {o : Objs} {j : Nat} (hj : j < nb) : ∀ {r : List Nat}, j ∈ r → j ∈ keysO (pkOld nb L o r)
  | [], h => by cases h
  | k :: r, h => by
    unfold pkOld
    rcases List.mem_cons.1 h with rfl | h
    · rw [show Nat.blt j nb = true from Nat.ble_eq_true_of_le hj]
      exact List.mem_cons_self ..
    · cases Nat.blt k nb with
      | true => exact List.mem_cons_of_mem _ (keysO_pkOld hj h)
      | false => exact keysO_pkOld hj h
theorem lookO_split {i : Nat} {ob : Ob} {A B : Objs} (h : lookO i (A ++ B) = some ob) : (i ∈ keysO A ∧ lookO i A = some ob) ∨ (i ∉ keysO A ∧ lookO i B = some ob) := by
  by_cases hk : i ∈ keysO A
  · rw [lookO_in hk] at h; exact .inl ⟨hk, h⟩
  · rw [lookO_none hk] at h; exact .inr ⟨hk, h⟩
theorem ren_mem {nb nx' : Nat} : ∀ {L : Ren2} {k j : Nat}, okRen nb nx' L = true → (k, j) ∈ L → rho2 nb L k = some j
  | [], k, j, _, h => by cases h
  | (a, b) :: r, k, j, h0, h => by
    have h00 := h0
    unfold okRen at h0
    simp only [Bool.and_eq_true] at h0
    obtain ⟨a1, a2, a3, a4, a5, a6⟩ := h0
    have hge : ∀ {L : Ren2} {k j : Nat}, okRen nb nx' L = true → (k, j) ∈ L → nb ≤ k := fun {L} => by
      induction L with
      | nil => intro k j _ h; cases h
      | cons p r ih =>
        intro k j h0 h
        obtain ⟨x, y⟩ := p
        unfold okRen at h0
        simp only [Bool.and_eq_true] at h0
        rcases List.mem_cons.1 h with e | h
        · cases e; exact Nat.le_of_ble_eq_true h0.1
        · exact ih h0.2.2.2.2.2 h
    have hk : Nat.blt k nb = false := by
      cases hb : Nat.blt k nb with
      | false => rfl
      | true => exact absurd (hge h00 h) (by have := Nat.le_of_ble_eq_true hb; omega)
    have ih : ∀ {L : Ren2} {k j : Nat}, okRen nb nx' L = true → (k, j) ∈ L → fwd L k = some j := fun {L} => by
      induction L with
      | nil => intro k j _ h; cases h
      | cons p r ih =>
        intro k j h0 h
        obtain ⟨x, y⟩ := p
        unfold okRen at h0
        simp only [Bool.and_eq_true] at h0
        obtain ⟨_, _, _, b4, _, b6⟩ := h0
        unfold fwd
        rcases List.mem_cons.1 h with e | h
        · cases e; rw [beq_self]; rfl
        · have h1 := ih b6 h
          cases hb : Nat.beq x k with
          | true =>
            obtain rfl := Nat.eq_of_beq_eq_true hb
            rw [isNone_iff.1 b4] at h1
            cases h1
          | false => exact h1
    unfold rho2
    rw [hk]
    exact ih h00 h
section
variable {F : Nat → Prop} {N : Nm} {nx : Nat} {o : Objs} {R : World} {ρ : Nat → Option Nat}
theorem pkL_id {xs : List A} (h : ∀ (j : Nat) (x : A), xs[j]? = some x → x.pk ρ = x) : pkL ρ xs = xs := by
  induction xs with
  | nil => unfold pkL; rfl
  | cons x r ih => unfold pkL; rw [h 0 x rfl, ih fun j y hy => h (j + 1) y hy]
theorem Hv.pk_id (hρ : ∀ k, k < nx → ρ k = some k) {x : A} {y : Value} (h : Hv F N nx R x y) : x.pk ρ = x := by
  induction h with
  | v x => unfold A.pk; rfl
  | sl => unfold A.pk; rfl
  | @ref l ad h1 h2 h3 ih =>
    unfold A.pk
    rw [pkL_id fun j x hx => by obtain ⟨y, hy⟩ := h2 j x hx; exact ih j x y hx hy]
  | own h => unfold A.pk; rw [hρ _ h]
  | ownx h => unfold A.pk; rw [hρ _ h]
  | sq h => unfold A.pk; rw [hρ _ h]
  | vw h => unfold A.pk; rw [hρ _ h]
  | el h => unfold A.pk; rw [hρ _ h]
  | mp h => unfold A.pk; rw [hρ _ h]
  | nl a => unfold A.pk; rfl
  | it q vs y h => unfold A.pk; rfl
  | @fn f first caps vs us h1 _ h3 _ ih2 ih4 =>
    unfold A.pk
    have e1 : pkL ρ first = first := pkL_id fun j x hx => by
      have hj : j < vs.length := by rw [h1]; exact (List.getElem?_eq_some_iff.1 hx).1
      exact ih2 j x _ hx (List.getElem?_eq_getElem hj)
    have e2 : pkL ρ caps = caps := pkL_id fun j x hx => by
      have hj : j < us.length := by rw [h3]; exact (List.getElem?_eq_some_iff.1 hx).1
      exact ih4 j x _ hx (List.getElem?_eq_getElem hj)
    rw [e1, e2]
  | @agg xs vs h1 _ ih =>
    unfold A.pk
    rw [pkL_id fun j x hx => by
      have hj : j < vs.length := by rw [h1]; exact (List.getElem?_eq_some_iff.1 hx).1
      exact ih j x _ hx (List.getElem?_eq_getElem hj)]
  | @tup xs vs h1 _ ih =>
    unfold A.pk
    rw [pkL_id fun j x hx => by
      have hj : j < vs.length := by rw [h1]; exact (List.getElem?_eq_some_iff.1 hx).1
      exact ih j x _ hx (List.getElem?_eq_getElem hj)]
  | dead y => unfold A.pk; rfl
theorem HL.pk_id (hρ : ∀ k, k < nx → ρ k = some k) : ∀ {xs : List A} {vs : List Value}, HL F N nx R xs vs → pkL ρ xs = xs
  | [], _, _ => by unfold pkL; rfl
  | x :: r, _, ⟨v, vs, _, h2, h3⟩ => by unfold pkL; rw [h2.pk_id hρ, HL.pk_id hρ h3]
theorem HRel.pk_id (h : HRel F N nx o R) (hρ : ∀ k, k < nx → ρ k = some k) {i : Nat} {ob : Ob} (hi : lookO i o = some ob) : ob.pk ρ = ob := by
  obtain ⟨_, h2⟩ := h.ob i ob hi
  cases ob with
  | box e cs =>
    obtain ⟨vs, h1, _⟩ := h2
    show Ob.box e (pkL ρ cs) = _
    rw [h1.pk_id hρ]
  | arr e size els =>
    cases els with
    | ty c l => rfl
    | lst cs =>
      obtain ⟨zs, _, h3⟩ := h2
      show Ob.arr e size (.lst (cs.map (pkL ρ))) = _
      congr 2
      apply List.ext_getElem?
      intro k
      rw [List.getElem?_map]
      cases hk : cs[k]? with
      | none => rfl
      | some c =>
        have hk' : k < cs.length := (List.getElem?_eq_some_iff.1 hk).1
        have := (h3 k hk').pk_id hρ
        have e : (Els.lst cs).nth k = c := by
          show nthL cs k = c
          rw [nthL_get, List.getD_eq_getElem?_getD, hk]
          rfl
        rw [e] at this
        exact congrArg some this
  | map k v l => rfl
  | sit s pos => rfl
end
/-- The objects of a state whose beginning had 'ob', numbered anew above nb. -/
def pkObjs (nb : Nat) (L : Ren2) (o ob : Objs) : Objs := pkNew nb L o L ++ (pkOld nb L o (newK o ob.length) ++ ob)
theorem pkObjs_ok {F : Nat → Prop} {N : Nm} {nb n nx' : Nat} {o ob d : Objs} {R : World} {L : Ren2} (h : HRel F N n o R) (h0 : okRen nb nx' L = true) (hnb : nb ≤ nx') (hd : o = d ++ ob) {F0 : Nat → Prop} {N0 : Nm} {R0 : World} (hb : HRel F0 N0 nb ob R0) :
    HRel F (nm2 N nb L) nx' (pkObjs nb L o ob) R ∧ ∀ g, Foot (nm2 N nb L) (pkObjs nb L o ob) g → Foot N o g := by
  have small : ∀ k, k < nb → rho2 nb L k = some k := fun k hk => by unfold rho2; rw [show Nat.blt k nb = true from Nat.ble_eq_true_of_le hk]; rfl
  refine h.pk (pk2 h0 hnb) fun j ob' hj => ?_
  unfold pkObjs at hj
  rcases lookO_split hj with ⟨_, h1⟩ | ⟨_, h1⟩
  · obtain ⟨k, x, h2, h3, h4⟩ := lookO_pkNew h1
    exact ⟨k, x, ren_mem h0 h2, h3, h4⟩
  · rcases lookO_split h1 with ⟨_, h2⟩ | ⟨h2, h3⟩
    · obtain ⟨h3, x, h4, h5⟩ := lookO_pkOld h2
      exact ⟨j, x, small j h3, h4, h5⟩
    · have h4 := (hb.ob j ob' h3).1
      refine ⟨j, ob', small j h4, ?_, (hb.pk_id small h3).symm⟩
      subst hd
      rw [lookO_newK fun hm => h2 (keysO_pkOld h4 hm)]
      exact h3
end Go.Proofs.Yteebobbhhgmeiaa
