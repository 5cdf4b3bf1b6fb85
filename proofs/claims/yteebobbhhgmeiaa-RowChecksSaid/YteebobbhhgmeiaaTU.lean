/- A symbolic run over typed data, part U: loops of any number of rounds. -/
import Derived.Test.YteebobbhhgmeiaaTQ
namespace Go.Proofs.Yteebobbhhgmeiaa
open Go.RowKit

/-! ### a state is brought into a shape -/
/-- Object i is written no more; slot u, or cell j of box b, which is nil, becomes a row of one's own, or a frozen one. -/
inductive Dir where
  | frz (i : Nat)
  | nil (u : Nat) (t : TypeId) (c : TC)
  | nilB (b j : Nat) (t : TypeId) (c : TC)
  | ty (i : Nat) (c : TC)
  | nilF (u : Nat) (c : TC)
  | nilFB (b j : Nat) (c : TC)
def isNilA : A → Bool
  | .v x => isNilV x
  | .nl => true
  | _ => false
def isNilA1 : A → Bool
  | .v x => isNilV x
  | _ => false
def adj1 (E : Env) (s : St) : Dir → Option (St × List Prop)
  | .frz i => freezeS E i s
  | .nil u t c => match look u s.t with
    | some x => bif isNilA1 x then some (⟨s.n, s.nx + 1, (u, .sq s.nx) :: s.t, (s.nx, some (.arr t (size c) (.ty c []))) :: s.o⟩, []) else none
    | none => none
  | .nilB b j t c => match lookO b s.o with
    | some (.box e cs) => match cs[j]? with
      | some x => bif isNilA1 x then (bif Nat.blt b s.nx then some (⟨s.n, s.nx + 1, s.t, (b, some (.box e (cs.set j (.sq s.nx)))) :: (s.nx, some (.arr t (size c) (.ty c []))) :: s.o⟩, []) else none) else none
      | none => none
    | _ => none
  | .nilF u c => match look u s.t with
    | some x => bif isNilA x then some (⟨s.n, s.nx, (u, .sl c []) :: s.t, s.o⟩, []) else none
    | none => none
  | .nilFB b j c => match lookO b s.o with
    | some (.box e cs) => match cs[j]? with
      | some x => bif isNilA x then some (⟨s.n, s.nx, s.t, (b, some (.box e (cs.set j (.sl c [])))) :: s.o⟩, []) else none
      | none => none
    | _ => none
  | .ty i c => match lookO i s.o with
    | some (.arr e sz els) => match elsTy c els with
      | some (l, ps) => some (⟨s.n, s.nx, s.t, (i, some (.arr e sz (.ty c l))) :: s.o⟩, ps)
      | none => none
    | _ => none
def adj (E : Env) : List Dir → St → Option (St × List Prop)
  | [], s => some (s, [])
  | d :: r, s => match adj1 E s d with
    | some (s', ps) => match adj E r s' with
      | some (s'', qs) => some (s'', ps ++ qs)
      | none => none
    | none => none
section
variable {E : Env} {Z : Base} {F : Nat → Prop} {N : Nm} {s : St} {a : Act} {R : World}
/-- Another word for what a slot holds. -/
theorem Rel.word (h : Rel Z F N s a R) {u : Nat} {x : A} (hx : Hv F N s.nx R x (tmOf a u)) : Rel Z F N ⟨s.n, s.nx, (u, x) :: s.t, s.o⟩ a R :=
  ⟨h.defers, h.size, fun v z hv => by
    have hv' : (bif Nat.beq u v then some x else look v s.t) = some z := hv
    cases hb : Nat.beq u v with
    | true =>
      rw [hb] at hv'
      obtain rfl := Nat.eq_of_beq_eq_true hb
      cases hv'
      exact (HS_plain hx.isPlain).2 hx
    | false => rw [hb] at hv'; exact h.slots v z hv', h.hp, h.st, h.tm⟩
theorem isNilA_plain {x : A} (h : isNilA x = true) : x.plain = true := by cases x <;> first | rfl | cases h
theorem isNilA_ok {x : A} {y : Value} {nx : Nat} (h : isNilA x = true) (hx : Hv F N nx R x y) : ∃ b, y = .slice b 0 0 := by
  cases x <;> first | (cases h; done) | skip
  · rw [hx.v_inv, isNilV_ok h]; exact ⟨none, rfl⟩
  · exact hx.nl_inv
theorem isNilA1_ok {x : A} {y : Value} {nx : Nat} (h : isNilA1 x = true) (hx : Hv F N nx R x y) : y = .slice none 0 0 := by
  cases x <;> first | (cases h; done) | skip
  rw [hx.v_inv, isNilV_ok h]
theorem isNilA1_plain {x : A} (h : isNilA1 x = true) : x.plain = true := by cases x <;> first | rfl | cases h
theorem HL.set {nx : Nat} {xs : List A} {vs : List Value} {j : Nat} {y : A} (h : HL F N nx R xs vs) (hy : ∀ v, vs[j]? = some v → Hv F N nx R y v) : HL F N nx R (xs.set j y) vs := by
  refine HL.of (by rw [List.length_set]; exact h.length) fun i x v hx hv => ?_
  by_cases hij : j = i
  · subst hij
    have hlt : j < xs.length := by have := (List.getElem?_eq_some_iff.1 hx).1; rwa [List.length_set] at this
    rw [List.getElem?_set_self hlt] at hx
    cases hx
    exact hy v hv
  · rw [List.getElem?_set_ne hij] at hx
    obtain ⟨w, h1, h2⟩ := h.get hx
    rw [hv] at h1
    cases h1
    exact h2
theorem adj1_ok (h : At Z a R s) {d : Dir} {s' : St} {ps : List Prop} (he : adj1 E s d = some (s', ps)) (hp : ∀ p ∈ ps, p) : At Z a R s' := by
  obtain ⟨F, N, h⟩ := h
  cases d with
  | frz i =>
    obtain ⟨F', h'⟩ := freeze_ok h he hp
    exact ⟨F', N, h'⟩
  | nil u t c =>
    unfold adj1 at he
    simp only at he
    split at he <;> first | (cases he; done) | skip
    rename_i x hx
    cases hn : isNilA1 x with
    | false => rw [hn] at he; cases he
    | true =>
      rw [hn] at he
      cases he
      have hv := isNilA1_ok hn ((HS_plain (isNilA1_plain hn)).1 (h.slots u x hx))
      obtain ⟨q1, q2⟩ := h.hp.nilRow t (size c) (els := .ty c []) rfl (Nat.le_refl _)
      have h2 := h.heap q2 q1
      refine ⟨_, _, h2.word (u := u) ?_⟩
      rw [hv]
      have := Hv.sq (F := F) (N := N.setQ s.nx (.slice none 0 0)) (nx := s.nx + 1) (R := R) (Nat.lt_succ_self s.nx)
      have e : (N.setQ s.nx (.slice none 0 0)).q s.nx = .slice none 0 0 := setF_same N.q s.nx _
      rw [e] at this
      exact this
  | nilB b j t c =>
    unfold adj1 at he
    simp only at he
    split at he <;> first | (cases he; done) | skip
    rename_i e cs hl
    split at he <;> first | (cases he; done) | skip
    rename_i x hx
    cases hn : isNilA1 x with
    | false => rw [hn] at he; cases he
    | true =>
      rw [hn] at he
      cases hb : Nat.blt b s.nx with
      | false => rw [hb] at he; cases he
      | true =>
        rw [hb] at he
        cases he
        have hbn : b < s.nx := Nat.le_of_ble_eq_true hb
        obtain ⟨q1, q2⟩ := h.hp.nilRow t (size c) (els := .ty c []) rfl (Nat.le_refl _)
        have e0 : (N.setQ s.nx (.slice none 0 0)).q s.nx = .slice none 0 0 := setF_same N.q s.nx _
        obtain ⟨r1, r2⟩ := q1.less (o' := (b, some (.box e (cs.set j (.sq s.nx)))) :: (s.nx, some (.arr t (size c) (.ty c []))) :: s.o) fun i ob hi => by
          rw [lookO_cons] at hi
          by_cases hib : i = b
          · rw [if_pos hib] at hi
            cases hi
            subst hib
            refine ⟨.box e cs, by rw [lookO_cons, if_neg (by omega)]; exact hl, fun ⟨vs, k1, k2⟩ => ⟨vs, k1.set fun v hv => ?_, k2⟩, fun g => Iff.rfl⟩
            obtain ⟨w, k3, k4⟩ := k1.get hx
            rw [hv] at k3
            cases k3
            rw [isNilA1_ok hn k4]
            have := Hv.sq (F := F) (N := N.setQ s.nx (.slice none 0 0)) (nx := s.nx + 1) (R := R) (Nat.lt_succ_self s.nx)
            rw [e0] at this
            exact this
          · rw [if_neg hib] at hi
            exact ⟨ob, hi, id, fun g => Iff.rfl⟩
        exact ⟨_, _, h.heap (q2.trans r2) r1⟩
  | nilF u c =>
    unfold adj1 at he
    simp only at he
    split at he <;> first | (cases he; done) | skip
    rename_i x hx
    cases hn : isNilA x with
    | false => rw [hn] at he; cases he
    | true =>
      rw [hn] at he
      cases he
      obtain ⟨b, hv⟩ := isNilA_ok hn ((HS_plain (isNilA_plain hn)).1 (h.slots u x hx))
      exact ⟨_, _, h.word (u := u) (Hv.sl_nil hv)⟩
  | nilFB b j c =>
    unfold adj1 at he
    simp only at he
    split at he <;> first | (cases he; done) | skip
    rename_i e cs hl
    split at he <;> first | (cases he; done) | skip
    rename_i x hx
    cases hn : isNilA x with
    | false => rw [hn] at he; cases he
    | true =>
      rw [hn] at he
      cases he
      obtain ⟨r1, r2⟩ := h.hp.less (o' := (b, some (.box e (cs.set j (.sl c [])))) :: s.o) fun i ob hi => by
        rw [lookO_cons] at hi
        by_cases hib : i = b
        · rw [if_pos hib] at hi
          cases hi
          subst hib
          refine ⟨.box e cs, hl, fun ⟨vs, k1, k2⟩ => ⟨vs, k1.set fun v hv => ?_, k2⟩, fun g => Iff.rfl⟩
          obtain ⟨w, k3, k4⟩ := k1.get hx
          rw [hv] at k3
          cases k3
          obtain ⟨b, hb⟩ := isNilA_ok hn k4
          exact Hv.sl_nil hb
        · rw [if_neg hib] at hi
          exact ⟨ob, hi, id, fun g => Iff.rfl⟩
      exact ⟨_, _, h.heap r2 r1⟩
  | ty i c =>
    unfold adj1 at he
    simp only at he
    split at he <;> first | (cases he; done) | skip
    rename_i e sz els hl
    split at he <;> first | (cases he; done) | skip
    rename_i l qs hty
    cases he
    obtain ⟨r1, r2⟩ := h.hp.less (o' := (i, some (.arr e sz (.ty c l))) :: s.o) fun k ob hi => by
      rw [lookO_cons] at hi
      by_cases hib : k = i
      · rw [if_pos hib] at hi
        cases hi
        subst hib
        refine ⟨.arr e sz els, hl, fun ⟨zs, k1, k2⟩ => ?_, fun g => Iff.rfl⟩
        obtain ⟨e1, _⟩ := elsTy_ok (F := F) (N := N) (nx := s.nx) (R := R) hty hp
        have hr := RowHL.ty (els := els) ⟨k1.1, k2⟩ hty hp
        have hn : (Els.ty c l).n = els.n := e1
        exact ⟨zs, by rw [hn]; exact k1, hr.2⟩
      · rw [if_neg hib] at hi
        exact ⟨ob, hi, id, fun g => Iff.rfl⟩
    exact ⟨_, _, h.heap r2 r1⟩
theorem adj_ok : ∀ {D : List Dir} {s s' : St} {ps : List Prop}, At Z a R s → adj E D s = some (s', ps) → (∀ p ∈ ps, p) → At Z a R s'
  | [], s, s', ps, h, he, _ => by cases he; exact h
  | d :: r, s, s', ps, h, he, hp => by
    unfold adj at he
    split at he <;> first | (cases he; done) | skip
    rename_i s1 ps1 h1
    split at he <;> first | (cases he; done) | skip
    rename_i s2 ps2 h2
    cases he
    exact adj_ok (adj1_ok h h1 fun p hm => hp p (List.mem_append.2 (.inl hm))) h2 fun p hm => hp p (List.mem_append.2 (.inr hm))
theorem adj_sub : ∀ {D : List Dir} {s s' : St} {ps : List Prop}, adj E D s = some (s', ps) → Sub s s'
  | [], s, s', ps, he => by cases he; exact Sub.refl _
  | d :: r, s, s', ps, he => by
    unfold adj at he
    split at he <;> first | (cases he; done) | skip
    rename_i s1 ps1 h1
    split at he <;> first | (cases he; done) | skip
    rename_i s2 ps2 h2
    cases he
    refine Sub.trans ?_ (adj_sub h2)
    cases d with
    | frz i => exact ⟨(freeze_sub h1).1, (freeze_sub h1).2⟩
    | nil u t c =>
      unfold adj1 at h1
      simp only at h1
      split at h1 <;> first | (cases h1; done) | skip
      replace h1 := bif_some h1
      cases h1
      exact ⟨rfl, [_], rfl⟩
    | nilB b j t c =>
      unfold adj1 at h1
      simp only at h1
      split at h1 <;> first | (cases h1; done) | skip
      split at h1 <;> first | (cases h1; done) | skip
      replace h1 := bif_some (bif_some h1)
      cases h1
      exact ⟨rfl, [_, _], rfl⟩
    | nilF u c =>
      unfold adj1 at h1
      simp only at h1
      split at h1 <;> first | (cases h1; done) | skip
      replace h1 := bif_some h1
      cases h1
      exact ⟨rfl, [], rfl⟩
    | nilFB b j c =>
      unfold adj1 at h1
      simp only at h1
      split at h1 <;> first | (cases h1; done) | skip
      split at h1 <;> first | (cases h1; done) | skip
      replace h1 := bif_some h1
      cases h1
      exact ⟨rfl, [_], rfl⟩
    | ty i c =>
      unfold adj1 at h1
      simp only at h1
      split at h1 <;> first | (cases h1; done) | skip
      split at h1 <;> first | (cases h1; done) | skip
      cases h1
      exact ⟨rfl, [_], rfl⟩
end

/-! ### a part of a state, its objects numbered anew -/
def okL (nb nx1 : Nat) : Ren2 → Bool
  | [] => true
  | (k, j) :: r => Nat.blt j nx1 && ((bif Nat.blt j nb then Nat.beq k j else true) && (isNone (fwd r k) && (isNone (bck r j) && okL nb nx1 r)))
theorem fwd_okL {nb nx1 : Nat} : ∀ {L : Ren2} {i j : Nat}, okL nb nx1 L = true → fwd L i = some j → bck L j = some i ∧ j < nx1 ∧ (j < nb → i = j)
  | [], i, j, _, h => by cases h
  | (k, m) :: r, i, j, h0, h => by
    unfold okL at h0
    simp only [Bool.and_eq_true] at h0
    obtain ⟨a1, a2, a3, a4, a5⟩ := h0
    unfold fwd at h
    cases hb : Nat.beq k i with
    | true =>
      rw [hb] at h
      cases h
      obtain rfl := Nat.eq_of_beq_eq_true hb
      refine ⟨?_, Nat.le_of_ble_eq_true a1, fun hlt => ?_⟩
      · unfold bck
        rw [beq_self]
        rfl
      · rw [show Nat.blt m nb = true from Nat.ble_eq_true_of_le hlt] at a2
        exact Nat.eq_of_beq_eq_true a2
    | false =>
      rw [hb] at h
      obtain ⟨h1, h2⟩ := fwd_okL a5 h
      refine ⟨?_, h2⟩
      unfold bck
      cases hm : Nat.beq m j with
      | true =>
        obtain rfl := Nat.eq_of_beq_eq_true hm
        rw [isNone_iff.1 a4] at h1
        cases h1
      | false => exact h1
def inv3 (nb : Nat) (L : Ren2) (j : Nat) : Nat := bif Nat.blt j nb then j else match bck L j with
  | some k => k
  | none => 0
def nm3 (N : Nm) (nb : Nat) (L : Ren2) : Nm := ⟨fun j => N.b (inv3 nb L j), fun j => N.q (inv3 nb L j)⟩
theorem inv3_fwd {nb nx1 : Nat} {L : Ren2} (h0 : okL nb nx1 L = true) {i j : Nat} (h : fwd L i = some j) : inv3 nb L j = i := by
  obtain ⟨h1, _, h3⟩ := fwd_okL h0 h
  unfold inv3
  cases hb : Nat.blt j nb with
  | true => exact (h3 (Nat.le_of_ble_eq_true hb)).symm
  | false => rw [h1]; rfl
theorem inv3_small {nb : Nat} {L : Ren2} {j : Nat} (h : j < nb) : inv3 nb L j = j := by
  unfold inv3
  rw [show Nat.blt j nb = true from Nat.ble_eq_true_of_le h]
  rfl
theorem pk3 {N : Nm} {nb n nx1 : Nat} {L : Ren2} (h0 : okL nb nx1 L = true) : Pk (fwd L) N n (nm3 N nb L) nx1 := fun i j _ hj => by
  have h1 := inv3_fwd h0 hj
  exact ⟨(fwd_okL h0 hj).2.1, by show N.b (inv3 nb L j) = _; rw [h1], by show N.q (inv3 nb L j) = _; rw [h1]⟩
def getD (u : Nat) (t : Slots) : A := match look u t with
  | some x => x
  | none => .dead
def pickT (L : Ren2) (t : Slots) : List Nat → Slots
  | [] => []
  | u :: r => (u, (getD u t).pk (fwd L)) :: pickT L t r
def pickO (L : Ren2) (o : Objs) : List Nat → Objs
  | [] => []
  | i :: r => match fwd L i with
    | some j => (j, match lookO i o with
      | some ob => some (ob.pk (fwd L))
      | none => none) :: pickO L o r
    | none => pickO L o r
def pickS (nx1 : Nat) (L : Ren2) (us os : List Nat) (s : St) : St := ⟨s.n, nx1, pickT L s.t us, pickO L s.o os⟩
section
variable {Z : Base} {F : Nat → Prop} {N N' : Nm} {nx nx' : Nat} {s : St} {a : Act} {R : World} {tm : Nat → Value} {ρ : Nat → Option Nat}
theorem HS.pk (st : Pk ρ N nx N' nx') : ∀ {x : A} {y : Value}, HS F N nx R tm x y → HS F N' nx' R tm (x.pk ρ) y
  | .opt u b x, y, h => by
    unfold A.pk
    simp only [HS] at h ⊢
    exact ⟨fun hb => HS.pk st (h.1 hb), h.2⟩
  | .v _, _, h => (HS_plain (by unfold A.pk; rfl)).2 (((HS_plain rfl).1 h).pk st)
  | .sl _ _, _, h => (HS_plain (by unfold A.pk; rfl)).2 (((HS_plain rfl).1 h).pk st)
  | .ref _, _, h => (HS_plain (by unfold A.pk; rfl)).2 (((HS_plain rfl).1 h).pk st)
  | .nl, _, h => (HS_plain (by unfold A.pk; rfl)).2 (((HS_plain rfl).1 h).pk st)
  | .it _ _, _, h => (HS_plain (by unfold A.pk; rfl)).2 (((HS_plain rfl).1 h).pk st)
  | .fn _ _ _, _, h => (HS_plain (by unfold A.pk; rfl)).2 (((HS_plain rfl).1 h).pk st)
  | .agg _, _, h => (HS_plain (by unfold A.pk; rfl)).2 (((HS_plain rfl).1 h).pk st)
  | .tup _, _, h => (HS_plain (by unfold A.pk; rfl)).2 (((HS_plain rfl).1 h).pk st)
  | .dead, _, h => (HS_plain (by unfold A.pk; rfl)).2 (((HS_plain rfl).1 h).pk st)
  | .own _ _, _, h => (HS_plain (((HS_plain rfl).1 h).pk st).isPlain).2 (((HS_plain rfl).1 h).pk st)
  | .ownx _ _ _ _, _, h => (HS_plain (((HS_plain rfl).1 h).pk st).isPlain).2 (((HS_plain rfl).1 h).pk st)
  | .sq _, _, h => (HS_plain (((HS_plain rfl).1 h).pk st).isPlain).2 (((HS_plain rfl).1 h).pk st)
  | .vw _ _ _ _ _, _, h => (HS_plain (((HS_plain rfl).1 h).pk st).isPlain).2 (((HS_plain rfl).1 h).pk st)
  | .el _ _ _ _, _, h => (HS_plain (((HS_plain rfl).1 h).pk st).isPlain).2 (((HS_plain rfl).1 h).pk st)
  | .mp _, _, h => (HS_plain (((HS_plain rfl).1 h).pk st).isPlain).2 (((HS_plain rfl).1 h).pk st)
theorem look_pickT {L : Ren2} {t : Slots} {u : Nat} {x : A} : ∀ {us : List Nat}, look u (pickT L t us) = some x → x = (getD u t).pk (fwd L)
  | [], h => by cases h
  | v :: r, h => by
    have h' : (bif Nat.beq v u then some ((getD v t).pk (fwd L)) else look u (pickT L t r)) = some x := h
    cases hb : Nat.beq v u with
    | true => rw [hb] at h'; obtain rfl := Nat.eq_of_beq_eq_true hb; cases h'; rfl
    | false => rw [hb] at h'; exact look_pickT h'
theorem lookO_pickO {L : Ren2} {o : Objs} {j : Nat} {ob' : Ob} : ∀ {os : List Nat}, lookO j (pickO L o os) = some ob' → ∃ i ob, i ∈ os ∧ fwd L i = some j ∧ lookO i o = some ob ∧ ob' = ob.pk (fwd L)
  | [], h => by cases h
  | i :: r, h => by
    unfold pickO at h
    cases hf : fwd L i with
    | none =>
      rw [hf] at h
      obtain ⟨i', ob, h1, h2⟩ := lookO_pickO h
      exact ⟨i', ob, List.mem_cons_of_mem _ h1, h2⟩
    | some m =>
      rw [hf] at h
      have h' : (bif Nat.beq m j then (match lookO i o with | some ob => some (ob.pk (fwd L)) | none => none) else lookO j (pickO L o r)) = some ob' := h
      cases hb : Nat.beq m j with
      | true =>
        rw [hb] at h'
        obtain rfl := Nat.eq_of_beq_eq_true hb
        simp only [cond_true] at h'
        split at h' <;> first | (cases h'; done) | skip
        rename_i ob hob
        cases h'
        exact ⟨i, ob, List.mem_cons_self .., hf, hob, rfl⟩
      | false =>
        rw [hb] at h'
        obtain ⟨i', ob, h1, h2⟩ := lookO_pickO h'
        exact ⟨i', ob, List.mem_cons_of_mem _ h1, h2⟩
theorem getD_ok (h : Rel Z F N s a R) (u : Nat) : HS F N s.nx R (tmOf a) (getD u s.t) (tmOf a u) := by
  unfold getD
  split
  · rename_i x hx; exact h.slots u x hx
  · exact (HS_plain rfl).2 (.dead _)
/-- A part of what is said, under other numbers. -/
theorem Rel.pick (h : Rel Z F N s a R) {nb nx1 : Nat} {L : Ren2} (h0 : okL nb nx1 L = true) (hz : Z.nx ≤ nb) (hz1 : Z.nx ≤ nx1) (us os : List Nat) : Rel Z F (nm3 N nb L) (pickS nx1 L us os s) a R := by
  obtain ⟨q1, q2⟩ := h.hp.pk (o' := pickO L s.o os) (pk3 (N := N) (n := s.nx) h0) fun j ob' hj => by
    obtain ⟨i, ob, _, h1, h2⟩ := lookO_pickO hj
    exact ⟨i, ob, h1, h2⟩
  refine ⟨h.defers, h.size, fun u x hu => ?_, q1, ⟨hz1, fun i hi => ?_, fun i hi => ?_, h.st.f, h.st.fnew, fun g hg => h.st.foot g (q2 g hg), h.st.os, h.st.tape, h.st.output, h.st.size, h.st.keep⟩, h.tm⟩
  · rw [look_pickT hu]
    exact (getD_ok h u).pk (pk3 h0)
  · show N.b (inv3 nb L i) = _
    rw [inv3_small (by omega)]
    exact h.st.b i hi
  · show N.q (inv3 nb L i) = _
    rw [inv3_small (by omega)]
    exact h.st.q i hi
end

/-! ### a round -/
/-- Part of a state as it is. -/
def partT (t : Slots) : List Nat → Slots
  | [] => []
  | u :: r => (u, getD u t) :: partT t r
def partO (o : Objs) : List Nat → Objs
  | [] => []
  | i :: r => (i, lookO i o) :: partO o r
def partS (us os : List Nat) (s : St) : St := ⟨s.n, s.nx, partT s.t us, partO s.o os⟩
def partOuts (us os : List Nat) : Outs → Outs
  | [] => []
  | (t, c, s) :: r => (t, c, partS us os s) :: partOuts us os r
structure Shape where
  nb : Nat
  nx1 : Nat
  us : List Nat
  dirs : List Dir
  ren : Ren2
  os : List Nat
  usO : List Nat
  osO : List Nat
/-- One round from a state of the shape: what must hold, how it leaves, whether it goes on, the next state. -/
def roundE (E : Env) (u : Nat) (b : Code) (S : Shape) (s : St) : Option (List Prop × Outs × Cnd × St) :=
  let r := evH E u 0 b false s
  match r.nrm with
  | some s1 => match adj E S.dirs s1 with
    | some (s2, qs) => some (r.ps ++ gimps (cndP (noneOf r.outs)) qs, partOuts S.usO S.osO r.outs, noneOf r.outs, pickS S.nx1 S.ren S.us S.os s2)
    | none => none
  | none => none
section
variable {X : Type} (next : X → X) (goes : X → Cnd)
def iterX : Nat → X → X
  | 0, x => x
  | n + 1, x => bif cval (goes x) then iterX n (next x) else x
def needX (ps : X → List Prop) : Nat → X → Prop
  | 0, x => (∀ p ∈ ps x, p) ∧ cval (goes x) = false
  | n + 1, x => (∀ p ∈ ps x, p) ∧ (cval (goes x) = true → needX ps n (next x))
end
section
variable {Z : Base} {F : Nat → Prop} {N : Nm} {s : St} {a : Act} {R : World}
theorem look_partT {t : Slots} {u : Nat} {x : A} : ∀ {us : List Nat}, look u (partT t us) = some x → x = getD u t
  | [], h => by cases h
  | v :: r, h => by
    have h' : (bif Nat.beq v u then some (getD v t) else look u (partT t r)) = some x := h
    cases hb : Nat.beq v u with
    | true => rw [hb] at h'; obtain rfl := Nat.eq_of_beq_eq_true hb; cases h'; rfl
    | false => rw [hb] at h'; exact look_partT h'
theorem lookO_partO {o : Objs} {i : Nat} {ob : Ob} : ∀ {os : List Nat}, lookO i (partO o os) = some ob → lookO i o = some ob ∧ i ∈ os
  | [], h => by cases h
  | k :: r, h => by
    have h' : (bif Nat.beq k i then lookO k o else lookO i (partO o r)) = some ob := h
    cases hb : Nat.beq k i with
    | true => rw [hb] at h'; obtain rfl := Nat.eq_of_beq_eq_true hb; exact ⟨h', List.mem_cons_self ..⟩
    | false => rw [hb] at h'; exact ⟨(lookO_partO h').1, List.mem_cons_of_mem _ (lookO_partO h').2⟩
theorem Rel.part (h : Rel Z F N s a R) (us os : List Nat) : Rel Z F N (partS us os s) a R := by
  have ho : ∀ i ob, lookO i (partO s.o os) = some ob → lookO i s.o = some ob := fun i ob hi => (lookO_partO hi).1
  refine ⟨h.defers, h.size, fun u x hu => ?_, h.hp.weak ho, h.st.trans (Step.weak ho), h.tm⟩
  rw [look_partT hu]
  exact getD_ok h u
theorem getO_part {us os : List Nat} {t : Tag} : ∀ {o : Outs}, getO t (partOuts us os o) = match getO t o with | some (c, s) => some (c, partS us os s) | none => none
  | [] => rfl
  | (k, c, s) :: r => by
    show (bif tagB k t then some (c, partS us os s) else getO t (partOuts us os r)) = match (bif tagB k t then some (c, s) else getO t r) with | some (c, s) => some (c, partS us os s) | none => none
    cases tagB k t with
    | true => rfl
    | false => exact getO_part
theorem once_part {us os : List Nat} : ∀ {o : Outs}, Once o → Once (partOuts us os o)
  | [], _ => trivial
  | (k, c, s) :: r, ⟨h1, h2⟩ => ⟨by rw [getO_part, h1], once_part h2⟩

/-- **Any number of rounds.** -/
theorem loop_ok {E : Env} (ok : CodeOk E) {u : Nat} {b : Code} {S : Shape} {X : Type} {T : X → St} {next : X → X} {goes : X → Cnd} {psA ps : X → List Prop} {outs : X → Outs} (hS : okL S.nb S.nx1 S.ren = true) (hnb : S.nb ≤ S.nx1)
    (hr : ∀ x, roundE E u b S (T x) = some (psA x, outs x, goes x, T (next x))) (hA : ∀ x, (∀ p ∈ ps x, p) → ∀ p ∈ psA x, p) {Z : Base} (hz : Z.nx ≤ S.nb) (hW : ∀ u, inW u (wrC b) = true → Z.W u) {Q : Exit → Act → World → Prop} : ∀ (n : Nat) (x : X) (a : Act) (R : World), At Z a R (T x) → needX next goes ps n x →
      (∀ e y a' R', Oc ⟨[], outs (iterX next goes n x), none⟩ e y → At Z a' R' y → Q e a' R') → Code.rounds E.P b Q (n + 1) a R := by
  intro n
  induction n with
  | zero =>
    intro x a R h hn hk
    obtain ⟨h1, h2⟩ := hn
    rw [rounds_succ]
    have hx := hr x
    unfold roundE at hx
    simp only at hx
    split at hx <;> first | (cases hx; done) | skip
    rename_i s1 hs1
    split at hx <;> first | (cases hx; done) | skip
    rename_i s2 qs hs2
    injection hx with hx
    injection hx with e1 hx
    injection hx with e2 hx
    injection hx with e3 e4
    replace h1 := hA x h1
    rw [← e1] at h1
    refine code_ok ok 0 b false Z (T x) a R _ h hW (all_append h1).1 fun e y a' R' ho hy => ?_
    have hwf := wf_code ok (u := u) 0 b false (T x)
    rcases ho with ⟨t, cc, rfl, g1, g2, g3⟩ | ⟨rfl, g1, g2⟩
    · obtain ⟨F, N, hy⟩ := hy
      have : Oc ⟨[], outs x, none⟩ (Tag.ex t) (partS S.usO S.osO y) := by
        rw [← e2]
        refine .inl ⟨t, cc, rfl, by show getO t (partOuts _ _ _) = _; rw [getO_part, g1], g2, fun t' c' s' hne hg => ?_⟩
        have hg' : getO t' (partOuts S.usO S.osO (evH E u 0 b false (T x)).outs) = some (c', s') := hg
        rw [getO_part] at hg'
        cases h5 : getO t' (evH E u 0 b false (T x)).outs with
        | none => rw [h5] at hg'; cases hg'
        | some z => obtain ⟨c1, z⟩ := z; rw [h5] at hg'; cases hg'; exact g3 t' _ z hne h5
      have := hk _ _ a' R' this ⟨F, N, hy.part _ _⟩
      cases t <;> exact this
    · exfalso
      have := allF_noneOf hwf.once g2
      rw [e3, h2] at this
      cases this
  | succ n ih =>
    intro x a R h hn hk
    obtain ⟨h1, h2⟩ := hn
    rw [rounds_succ]
    have hx := hr x
    unfold roundE at hx
    simp only at hx
    split at hx <;> first | (cases hx; done) | skip
    rename_i s1 hs1
    split at hx <;> first | (cases hx; done) | skip
    rename_i s2 qs hs2
    injection hx with hx
    injection hx with e1 hx
    injection hx with e2 hx
    injection hx with e3 e4
    replace h1 := hA x h1
    rw [← e1] at h1
    refine code_ok ok 0 b false Z (T x) a R _ h hW (all_append h1).1 fun e y a' R' ho hy => ?_
    have hwf := wf_code ok (u := u) 0 b false (T x)
    rcases ho with ⟨t, cc, rfl, g1, g2, g3⟩ | ⟨rfl, g1, g2⟩
    · obtain ⟨F, N, hy⟩ := hy
      have hc : cval (goes x) = false := by rw [← e3]; exact noneOf_no g1 g2
      have hi : iterX next goes (n + 1) x = x := by unfold iterX; rw [hc]; rfl
      rw [hi] at hk
      have : Oc ⟨[], outs x, none⟩ (Tag.ex t) (partS S.usO S.osO y) := by
        rw [← e2]
        refine .inl ⟨t, cc, rfl, by show getO t (partOuts _ _ _) = _; rw [getO_part, g1], g2, fun t' c' s' hne hg => ?_⟩
        have hg' : getO t' (partOuts S.usO S.osO (evH E u 0 b false (T x)).outs) = some (c', s') := hg
        rw [getO_part] at hg'
        cases h5 : getO t' (evH E u 0 b false (T x)).outs with
        | none => rw [h5] at hg'; cases hg'
        | some z => obtain ⟨c1, z⟩ := z; rw [h5] at hg'; cases hg'; exact g3 t' _ z hne h5
      have := hk _ _ a' R' this ⟨F, N, hy.part _ _⟩
      cases t <;> exact this
    · have hc : cval (goes x) = true := by rw [← e3]; exact allF_noneOf hwf.once g2
      have hi : iterX next goes (n + 1) x = iterX next goes n (next x) := by
        show (bif cval (goes x) then _ else _) = _
        rw [hc]; rfl
      rw [hi] at hk
      rw [hs1] at g1
      obtain rfl := Option.some.inj g1
      have hq : ∀ p ∈ qs, p := gimps_ok (all_append h1).2 (cndP_ok (by rw [e3]; exact hc))
      obtain ⟨F, N, h3⟩ := adj_ok hy hs2 hq
      have h4 := h3.pick hS hz (Nat.le_trans hz hnb) S.us S.os
      rw [e4] at h4
      exact ih (next x) a' R' ⟨F, _, h4⟩ (h2 hc) hk
end

/-- The body of the loop in block l. -/
def findLoop (l : Nat) : Code → Option Code
  | .seq a b => match findLoop l a with
    | some c => some c
    | none => findLoop l b
  | .cond _ a b => match findLoop l a with
    | some c => some c
    | none => findLoop l b
  | .block id b => match Nat.beq id l, b with
    | true, .loop c => some c
    | _, _ => findLoop l b
  | .loop b => findLoop l b
  | .scope b => findLoop l b
  | .rangeFunc _ _ _ b => findLoop l b
  | _ => none
def loopAt (P : Program) (f : FuncId) (l : Nat) : Code := match P.funcs[f]? with
  | some fn => match fn.body with
    | some c => match findLoop l c with
      | some b => b
      | none => .skip
    | none => .skip
  | none => .skip
def addLp (l0 : Nat) (g : St → Option (Code × List Prop × Outs)) (L : LTab) : LTab := fun l s => bif Nat.beq l l0 then g s else L l s

/-! ### a loop's row -/
def deadW : List Nat → Slots
  | [] => []
  | u :: r => (u, .dead) :: deadW r
def maskO : List Nat → Objs
  | [] => []
  | i :: r => (i, none) :: maskO r
/-- A state behind a loop: what the loop says, and what stood beside. -/
def combS (W os : List Nat) (sA st : St) : St := ⟨sA.n, st.nx, st.t ++ (deadW W ++ killW W sA.t), st.o ++ (maskO os ++ sA.o)⟩
def combOuts (W os : List Nat) (sA : St) : Outs → Outs
  | [] => []
  | (t, c, s) :: r => (t, c, combS W os sA s) :: combOuts W os sA r
structure Entry where
  dirs : List Dir
  ren : Ren2
  us : List Nat
  os : List Nat
def rowL (E : Env) (b : Code) (S : Shape) (En : Entry) {X : Type} (unT : St → Option X) (fuel : X → Nat) (next : X → X) (goes : X → Cnd) (ps : X → List Prop) (outs : X → Outs) (s : St) : Option (Code × List Prop × Outs) :=
  match adj E En.dirs s with
  | some (sA, qs) => bif Nat.beq sA.nx S.nb then (bif okL S.nb S.nx1 En.ren then (match unT (pickS S.nx1 En.ren En.us En.os sA) with
    | some x => some (b, qs ++ [needX next goes ps (fuel x) x], combOuts (wrC b) En.os sA (outs (iterX next goes (fuel x) x)))
    | none => none) else none) else none
  | none => none
section
theorem inW_mem {u : Nat} : ∀ {W : List Nat}, inW u W = true → look u (deadW W) = some .dead
  | [], h => by cases h
  | k :: r, h => by
    show (bif Nat.beq k u then some A.dead else look u (deadW r)) = _
    cases hb : Nat.beq k u with
    | true => rfl
    | false =>
      have h' : (bif Nat.beq k u then true else inW u r) = true := h
      rw [hb] at h'
      exact inW_mem h'
theorem look_deadW {u : Nat} {x : A} : ∀ {W : List Nat}, look u (deadW W) = some x → x = .dead
  | [], h => by cases h
  | k :: r, h => by
    have h' : (bif Nat.beq k u then some A.dead else look u (deadW r)) = some x := h
    cases hb : Nat.beq k u with
    | true => rw [hb] at h'; cases h'; rfl
    | false => rw [hb] at h'; exact look_deadW h'
theorem lookO_maskO {i : Nat} : ∀ {os : List Nat}, lookO i (maskO os) = none
  | [] => rfl
  | k :: r => by
    show (bif Nat.beq k i then none else lookO i (maskO r)) = none
    cases Nat.beq k i with
    | true => rfl
    | false => exact lookO_maskO
theorem keysO_maskO {i : Nat} : ∀ {os : List Nat}, i ∈ os → i ∈ keysO (maskO os)
  | [], h => by cases h
  | k :: r, h => by
    rcases List.mem_cons.1 h with rfl | h
    · exact List.mem_cons_self ..
    · exact List.mem_cons_of_mem _ (keysO_maskO h)
theorem getO_comb {W os : List Nat} {sA : St} {t : Tag} : ∀ {o : Outs}, getO t (combOuts W os sA o) = match getO t o with | some (c, s) => some (c, combS W os sA s) | none => none
  | [] => rfl
  | (k, c, s) :: r => by
    show (bif tagB k t then some (c, combS W os sA s) else getO t (combOuts W os sA r)) = match (bif tagB k t then some (c, s) else getO t r) with | some (c, s) => some (c, combS W os sA s) | none => none
    cases tagB k t with
    | true => rfl
    | false => exact getO_comb
theorem once_comb {W os : List Nat} {sA : St} : ∀ {o : Outs}, Once o → Once (combOuts W os sA o)
  | [], _ => trivial
  | (k, c, s) :: r, ⟨h1, h2⟩ => ⟨by rw [getO_comb, h1], once_comb h2⟩
/-- What the loop says, and what stood beside. -/
theorem comb_ok {Z : Base} {F F' : Nat → Prop} {N N' : Nm} {sA st : St} {a a' : Act} {R R' : World} {nb nx1 : Nat} {L : Ren2} {os W : List Nat} (h : Rel Z F N sA a R) (hn : st.n = sA.n) (hW : ∀ u, inW u W = true → Z.W u) (hnb : sA.nx = nb) (hL : okL nb nx1 L = true)
    (h' : Rel ⟨F, nm3 N nb L, nb, pickO L sA.o os, R, tmOf a, fun u => inW u W = true⟩ F' N' st a' R') : Rel Z F' N' (combS W os sA st) a' R' := by
  subst hnb
  let o1 := partO sA.o os
  have ho1 : ∀ i ob, lookO i o1 = some ob → lookO i sA.o = some ob := fun i ob hi => (lookO_partO hi).1
  have hfoot : ∀ g, Foot (nm3 N sA.nx L) (pickO L sA.o os) g → Foot N o1 g := fun g ⟨j, ob', hj, hg⟩ => by
    obtain ⟨i, ob, hi, h1, h2, rfl⟩ := lookO_pickO hj
    have hlt := (h.hp.ob i ob h2).1
    refine ⟨i, ob, ?_, (foot_pk (pk3 (N := N) (n := sA.nx) hL) hlt h1).1 hg⟩
    have : ∀ {l : List Nat}, i ∈ l → lookO i (partO sA.o l) = lookO i sA.o := fun {l} => by
      induction l with
      | nil => intro hm; cases hm
      | cons k r ih =>
        intro hm
        show (bif Nat.beq k i then lookO k sA.o else lookO i (partO sA.o r)) = _
        cases hb : Nat.beq k i with
        | true => rw [Nat.eq_of_beq_eq_true hb]; rfl
        | false =>
          rcases List.mem_cons.1 hm with rfl | hm
          · simp at hb
          · exact ih hm
    rw [this hi]
    exact h2
  have st1 : Step F N sA.nx o1 R F' N' st.nx st.o R' := ⟨h'.st.le, fun i hi => by
      have := h'.st.b i hi
      rw [this]
      show N.b (inv3 sA.nx L i) = _
      rw [inv3_small hi], fun i hi => by
      have := h'.st.q i hi
      rw [this]
      show N.q (inv3 sA.nx L i) = _
      rw [inv3_small hi], h'.st.f, fun g hg => by
      rcases h'.st.fnew g hg with h1 | h1 | h1
      · exact .inl h1
      · exact .inr (.inl (hfoot g h1))
      · exact .inr (.inr h1), fun g hg => by
      rcases h'.st.foot g hg with h1 | h1
      · exact .inl (hfoot g h1)
      · exact .inr h1, h'.st.os, h'.st.tape, h'.st.output, h'.st.size, fun g hg hn => h'.st.keep g hg fun hf => hn (hfoot g hf)⟩
  obtain ⟨q1, q2⟩ := h.hp.frame (o' := st.o ++ (maskO os ++ sA.o)) ho1 st1 h'.hp fun i ob hi => by
    rcases lookO_split hi with ⟨_, h1⟩ | ⟨_, h1⟩
    · exact .inl h1
    · rcases lookO_split h1 with ⟨_, h2⟩ | ⟨h2, h3⟩
      · rw [lookO_maskO] at h2; cases h2
      · refine .inr ⟨h3, ?_⟩
        cases h4 : lookO i o1 with
        | none => rfl
        | some ob2 => exact absurd (keysO_maskO (lookO_partO h4).2) h2
  have htm : ∀ u, inW u W = false → tmOf a' u = tmOf a u := fun u hu => h'.tm u fun hh => by
    have hh' : inW u W = true := hh
    rw [hu] at hh'; cases hh'
  refine ⟨h'.defers, h'.size.trans hn, fun u x hu => ?_, q1, h.st.trans q2, fun u hu => ?_⟩
  · have hu' : look u (st.t ++ (deadW W ++ killW W sA.t)) = some x := hu
    rw [look_append] at hu'
    cases h1 : look u st.t with
    | some y => rw [h1] at hu'; cases hu'; exact h'.slots u x h1
    | none =>
      rw [h1] at hu'
      have hu2 : look u (deadW W ++ killW W sA.t) = some x := hu'
      rw [look_append] at hu2
      cases h2 : look u (deadW W) with
      | some y => rw [h2] at hu2; cases hu2; rw [look_deadW h2]; exact (HS_plain rfl).2 (.dead _)
      | none =>
        rw [h2] at hu2
        have hu3 : look u (killW W sA.t) = some x := hu2
        have hw : inW u W = false := by
          cases hw : inW u W with
          | false => rfl
          | true => rw [inW_mem hw] at h2; cases h2
        rcases look_killW hu3 with rfl | ⟨k1, k2⟩
        · exact (HS_plain rfl).2 (.dead _)
        · rw [htm u hw]
          exact HS.congrW htm k2 ((h.slots u x k1).step (q2.ext h.hp))
  · rw [h'.tm u fun hw => hu (hW u hw)]
    exact h.tm u hu
/-- **A loop's row is right.** -/
theorem rowL_ok {E : Env} (ok : CodeOk E) {u : Nat} {b : Code} {S : Shape} {En : Entry} {X : Type} {T : X → St} {unT : St → Option X} {fuel : X → Nat} {next : X → X} {goes : X → Cnd} {psA ps : X → List Prop} {outs : X → Outs} (hS : okL S.nb S.nx1 S.ren = true) (hnb : S.nb ≤ S.nx1)
    (hr : ∀ x, roundE E u b S (T x) = some (psA x, outs x, goes x, T (next x))) (hA : ∀ x, (∀ p ∈ ps x, p) → ∀ p ∈ psA x, p) (hu : ∀ s x, unT s = some x → s = T x)
    (hw : ∀ x, Once (outs x) ∧ ∀ t c y, getO t (outs x) = some (c, y) → y.n = (T x).n) (hTn : ∀ x y, (T x).n = (T y).n) {s : St} {b0 : Code} {qs : List Prop} {os : Outs} (he : rowL E b S En unT fuel next goes ps outs s = some (b0, qs, os)) :
    Wf s ⟨qs, os, none⟩ ∧ LoopOk E b0 s qs os := by
  unfold rowL at he
  split at he <;> first | (cases he; done) | skip
  rename_i sA ps1 hAd
  cases hq1 : Nat.beq sA.nx S.nb with
  | false => rw [hq1] at he; cases he
  | true =>
    cases hq2 : okL S.nb S.nx1 En.ren with
    | false => rw [hq1, hq2] at he; cases he
    | true =>
      rw [hq1, hq2] at he
      simp only [cond_true] at he
      split at he <;> first | (cases he; done) | skip
      rename_i x hx
      cases he
      have hnx := Nat.eq_of_beq_eq_true hq1
      have hT := hu _ _ hx
      have hsub := adj_sub hAd
      have hnT : ∀ y, (T y).n = sA.n := fun y => by rw [hTn y x, ← hT]; rfl
      refine ⟨⟨fun t c y hy => ?_, fun y hy => (by cases hy), once_comb (hw _).1⟩, ?_⟩
      · have hy' : getO t (combOuts (wrC b) En.os sA (outs (iterX next goes (fuel x) x))) = some (c, y) := hy
        rw [getO_comb] at hy'
        split at hy' <;> first | (cases hy'; done) | skip
        cases hy'
        obtain ⟨d, hd⟩ := hsub.seq
        exact ⟨hsub.n, by show ∃ d, _ ++ (maskO En.os ++ sA.o) = d ++ s.o; rw [hd]; exact ⟨_, by rw [← List.append_assoc, ← List.append_assoc]⟩⟩
      · intro Z F N a R Q h hW hp hk
        have hp1 : ∀ p ∈ ps1, p := fun p hm => hp p (List.mem_append.2 (.inl hm))
        have hneed : needX next goes ps (fuel x) x := hp _ (List.mem_append.2 (.inr (List.mem_singleton.2 rfl)))
        obtain ⟨F1, N1, h1⟩ := adj_ok ⟨F, N, h⟩ hAd hp1
        have hpick := (h1.start (wrC b)).pick (L := En.ren) hq2 (by show sA.nx ≤ S.nb; omega) (by show sA.nx ≤ S.nx1; omega) En.us En.os
        have hrel : Rel ⟨F1, nm3 N1 S.nb En.ren, S.nb, pickO En.ren sA.o En.os, R, tmOf a, fun u => inW u (wrC b) = true⟩ F1 (nm3 N1 S.nb En.ren) (T x) a R := by
          rw [← hT]
          exact ⟨hpick.defers, hpick.size, hpick.slots, hpick.hp, ⟨hnb, fun _ _ => rfl, fun _ _ => rfl, fun _ h => h, fun _ h => .inl h, fun _ h => .inl h, rfl, rfl, rfl, Nat.le_refl _, fun _ _ _ => rfl⟩, fun _ _ => rfl⟩
        refine wp_loop_rounds (fuel x + 1) (loop_ok ok (u := u) (b := b) hS hnb hr hA (Nat.le_refl _) (fun u hu => hu) (fuel x) x a R ⟨F1, _, hrel⟩ hneed fun e y a' R' ho ⟨F2, N2, hy⟩ => ?_)
        rcases ho with ⟨t, c, rfl, g1, g2, g3⟩ | ⟨rfl, g1, g2⟩
        · have g1' : getO t (outs (iterX next goes (fuel x) x)) = some (c, y) := g1
          refine hk _ (combS (wrC b) En.os sA y) F2 N2 a' R' (.inl ⟨t, c, rfl, by show getO t (combOuts _ _ _ _) = _; rw [getO_comb, g1'], g2, fun t' c' s' hne hg => ?_⟩) (comb_ok h1 (by rw [(hw _).2 t c y g1', hnT]) hW hnx hq2 hy)
          have hg' : getO t' (combOuts (wrC b) En.os sA (outs (iterX next goes (fuel x) x))) = some (c', s') := hg
          rw [getO_comb] at hg'
          split at hg' <;> first | (cases hg'; done) | skip
          rename_i c1 z hz
          cases hg'
          exact g3 t' _ z hne hz
        · cases g1
end
end Go.Proofs.Yteebobbhhgmeiaa
