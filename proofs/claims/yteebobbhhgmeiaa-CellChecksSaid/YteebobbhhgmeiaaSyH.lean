/- A symbolic run with sequences, part H: two states put together. -/
import Derived.Test.YteebobbhhgmeiaaSyG
namespace Go.Proofs.Yteebobbhhgmeiaa
open Go.RowKit

def mergeA (g : Bool) : AV → AV → AV
  | .v x, .v y => match mergeV 2 g x y with
    | some z => .v z
    | none => .dead
  | .own i o, .own j p => bif Nat.beq i j then (bif Nat.beq o p then .own i o else .dead) else .dead
  | .sq i, .sq j => bif Nat.beq i j then .sq i else .dead
  | .osl i l c, .osl j m d => bif Nat.beq i j then (bif Nat.beq l m then (bif Nat.beq c d then .osl i l c else .dead) else .dead) else .dead
  | _, _ => .dead
theorem mergeA_ok {N : Nm} {tm : Nat → Value} {g : Bool} {x y : AV} {v : Value} (h : Holds N tm (bif g then x else y) v) : Holds N tm (mergeA g x y) v := by
  unfold mergeA
  split
  · rename_i x y
    split
    · rename_i z hz
      have := mergeV_ok hz
      cases g with
      | true => exact ⟨rfl, by show v = z; rw [this]; exact h.2⟩
      | false => exact ⟨rfl, by show v = z; rw [this]; exact h.2⟩
    · trivial
  · rename_i i o j p
    cases h1 : Nat.beq i j with
    | false => trivial
    | true =>
      cases h2 : Nat.beq o p with
      | false => trivial
      | true =>
        obtain rfl := Nat.eq_of_beq_eq_true h1
        obtain rfl := Nat.eq_of_beq_eq_true h2
        cases g <;> exact h
  · rename_i i j
    cases h1 : Nat.beq i j with
    | false => trivial
    | true =>
      obtain rfl := Nat.eq_of_beq_eq_true h1
      cases g <;> exact h
  · rename_i i l c j m d
    cases h1 : Nat.beq i j with
    | false => trivial
    | true =>
      cases h2 : Nat.beq l m with
      | false => trivial
      | true =>
        cases h3 : Nat.beq c d with
        | false => trivial
        | true =>
          obtain rfl := Nat.eq_of_beq_eq_true h1
          obtain rfl := Nat.eq_of_beq_eq_true h2
          obtain rfl := Nat.eq_of_beq_eq_true h3
          cases g <;> exact h
  · trivial

def keys : Slots → List Nat
  | [] => []
  | (k, _) :: r => k :: keys r
def keysB : Boxes → List Nat
  | [] => []
  | (k, _) :: r => k :: keysB r
def merge2 (g : Bool) : Option AV → Option AV → AV
  | some x, some y => mergeA g x y
  | _, _ => .dead
def mergeKeys (g : Bool) (t1 t2 : Slots) : List Nat → Slots
  | [] => []
  | u :: r => (u, merge2 g (look u t1) (look u t2)) :: mergeKeys g t1 t2 r
def deadA : AV → AV → AV
  | .dead, _ => .dead
  | _, .dead => .dead
  | x, _ => x
def zipDead : Slots → Slots → Slots
  | (k, x) :: r, (_, y) :: r' => (k, deadA x y) :: zipDead r r'
  | _, _ => []
def keysQ : Seqs → List Nat
  | [] => []
  | (k, _) :: r => k :: keysQ r
def mergeLV (g : Bool) : LV → LV → LV
  | .v x, .v y => match mergeV 2 g x y with
    | some z => .v z
    | none => .dead
  | .sq i, .sq j => bif Nat.beq i j then .sq i else .dead
  | _, _ => .dead
def mergeLs (g : Bool) : List LV → List LV → Option (List LV)
  | [], [] => some []
  | x :: xs, y :: ys => match mergeLs g xs ys with
    | some zs => some (mergeLV g x y :: zs)
    | none => none
  | _, _ => none
def mergeBox (g : Bool) : Option (TypeId × List LV) → Option (TypeId × List LV) → Option (TypeId × List LV)
  | some (e, cs), some (e', cs') => bif Nat.beq e e' then (match mergeLs g cs cs' with
    | some zs => some (e, zs)
    | none => none) else none
  | _, _ => none
def mergeBs (g : Bool) (b1 b2 : Boxes) : List Nat → Boxes
  | [] => []
  | i :: r => (i, mergeBox g (lookB i b1) (lookB i b2)) :: mergeBs g b1 b2 r
def mergeSq (g : Bool) : Option Sq → Option Sq → Option Sq
  | some ⟨o, e, sz, n, xs, none⟩, some ⟨o', e', sz', n', xs', none⟩ => bif Nat.beq e e' then (bif Nat.beq sz sz' then
      some ⟨o && o', e, sz, bif g then n else n', bif g then xs else xs', none⟩ else none) else none
  | _, _ => none
def mergeQs (g : Bool) (q1 q2 : Seqs) : List Nat → Seqs
  | [] => []
  | i :: r => (i, mergeSq g (lookQ i q1) (lookQ i q2)) :: mergeQs g q1 q2 r
def deadLV : LV → LV → LV
  | .dead, _ => .dead
  | _, .dead => .dead
  | x, _ => x
def zipL : List LV → List LV → List LV
  | x :: r, y :: r' => deadLV x y :: zipL r r'
  | _, _ => []
def zipBs : Boxes → Boxes → Boxes
  | (k, some (e, cs)) :: r, (_, some (_, ds)) :: r' => (k, some (e, zipL cs ds)) :: zipBs r r'
  | (k, _) :: r, (_, _) :: r' => (k, none) :: zipBs r r'
  | _, _ => []
def mergeT (g : Bool) (k : Nat) (t1 t2 : Slots) : Slots :=
  mergeKeys g t1 t2 (keys (t1.take (t1.length - k)) ++ keys (t2.take (t2.length - k))) ++ zipDead (t1.drop (t1.length - k)) (t2.drop (t2.length - k))
def mergeB (g : Bool) (k : Nat) (b1 b2 : Boxes) : Boxes :=
  mergeBs g b1 b2 (keysB (b1.take (b1.length - k)) ++ keysB (b2.take (b2.length - k))) ++ zipBs (b1.drop (b1.length - k)) (b2.drop (b2.length - k))
def mergeQ (g : Bool) (k : Nat) (q1 q2 : Seqs) : Seqs :=
  mergeQs g q1 q2 (keysQ (q1.take (q1.length - k)) ++ keysQ (q2.take (q2.length - k))) ++ q1.drop (q1.length - k)
def merge0 (g : Bool) (k kb kq : Nat) (s1 s2 : St) : St := ⟨s1.n, mergeT g k s1.t s2.t, mergeB g kb s1.b s2.b, mergeQ g kq s1.q s2.q⟩
/-- Sequence i, that slot u names, goes on as m. -/
def moveTo (s : St) (u i m : Nat) (q : Sq) : St := ⟨s.n, (u, .sq m) :: kill u (killSq i (killSq m s.t)), killBs i (killBs m s.b), (i, none) :: (m, some q) :: s.q⟩
def align (s1 s2 : St) : List Nat → St × St
  | [] => (s1, s2)
  | u :: r => match look u s1.t, look u s2.t with
    | some (.sq i), some (.sq j) => match lookQ i s1.q, lookQ j s2.q with
      | some q, some q' => bif Nat.beq i j then align s1 s2 r else
        bif Nat.beq i (1000000 + 1000 * u + s1.q.length + s2.q.length) then align s1 s2 r else bif Nat.beq j (1000000 + 1000 * u + s1.q.length + s2.q.length) then align s1 s2 r else
        match lookQ (1000000 + 1000 * u + s1.q.length + s2.q.length) s1.q, lookQ (1000000 + 1000 * u + s1.q.length + s2.q.length) s2.q with
        | none, none => align (moveTo s1 u i (1000000 + 1000 * u + s1.q.length + s2.q.length) q) (moveTo s2 u j (1000000 + 1000 * u + s1.q.length + s2.q.length) q') r
        | _, _ => align s1 s2 r
      | _, _ => align s1 s2 r
    | _, _ => align s1 s2 r
def aligned (k : Nat) (s1 s2 : St) : St × St := align s1 s2 (keys (s1.t.take (s1.t.length - k)) ++ keys (s2.t.take (s2.t.length - k)))
def mergeS (g : Bool) (s s1 s2 : St) : St := merge0 g s.t.length s.b.length s.q.length (aligned s.t.length s1 s2).1 (aligned s.t.length s1 s2).2

/-! ### a state that is another one, and more -/
def LeT : Slots → Slots → Prop
  | [], [] => True
  | (k, x) :: r, (k', y) :: r' => k = k' ∧ (x = y ∨ x = .dead) ∧ LeT r r'
  | _, _ => False
theorem LeT.refl : ∀ t, LeT t t
  | [] => trivial
  | (_, _) :: r => ⟨rfl, .inl rfl, LeT.refl r⟩
theorem LeT.trans : ∀ {t u v : Slots}, LeT t u → LeT u v → LeT t v
  | [], [], [], _, _ => trivial
  | (_, _) :: _, (_, _) :: _, (_, _) :: _, ⟨h1, h2, h3⟩, ⟨g1, g2, g3⟩ => ⟨h1.trans g1, by
      rcases h2 with rfl | rfl
      · exact g2
      · exact .inr rfl, LeT.trans h3 g3⟩
  | [], [], _ :: _, _, h => h.elim
  | [], _ :: _, _, h, _ => h.elim
  | _ :: _, [], _, h, _ => h.elim
  | (_, _) :: _, (_, _) :: _, [], _, h => h.elim
theorem LeT.length : ∀ {t u : Slots}, LeT t u → t.length = u.length
  | [], [], _ => rfl
  | (_, _) :: _, (_, _) :: _, ⟨_, _, h⟩ => by rw [List.length_cons, List.length_cons, LeT.length h]
  | [], _ :: _, h => h.elim
  | _ :: _, [], h => h.elim
theorem LeT.drop : ∀ {t u : Slots} (n : Nat), LeT t u → LeT (t.drop n) (u.drop n)
  | _, _, 0, h => h
  | [], [], _ + 1, _ => trivial
  | (_, _) :: _, (_, _) :: _, n + 1, ⟨_, _, h⟩ => LeT.drop n h
  | [], _ :: _, _ + 1, h => h.elim
  | _ :: _, [], _ + 1, h => h.elim
theorem LeT.kill (u : Nat) : ∀ t, LeT (kill u t) t
  | [] => trivial
  | (k, x) :: r => by
    unfold Go.Proofs.Yteebobbhhgmeiaa.kill
    cases x.dep u with
    | true => exact ⟨rfl, .inr rfl, LeT.kill u r⟩
    | false => exact ⟨rfl, .inl rfl, LeT.kill u r⟩
theorem LeT.killBox (u : Nat) : ∀ t, LeT (killBox u t) t
  | [] => trivial
  | (k, x) :: r => by
    unfold Go.Proofs.Yteebobbhhgmeiaa.killBox
    cases x.refs u with
    | true => exact ⟨rfl, .inr rfl, LeT.killBox u r⟩
    | false => exact ⟨rfl, .inl rfl, LeT.killBox u r⟩

theorem LeT.killSq (u : Nat) : ∀ t, LeT (killSq u t) t
  | [] => trivial
  | (k, x) :: r => by
    unfold Go.Proofs.Yteebobbhhgmeiaa.killSq
    cases x.refq u with
    | true => exact ⟨rfl, .inr rfl, LeT.killSq u r⟩
    | false => exact ⟨rfl, .inl rfl, LeT.killSq u r⟩
def LeL : List LV → List LV → Prop
  | [], [] => True
  | x :: r, y :: r' => (x = y ∨ x = .dead) ∧ LeL r r'
  | _, _ => False
theorem LeL.refl : ∀ t, LeL t t
  | [] => trivial
  | _ :: r => ⟨.inl rfl, LeL.refl r⟩
theorem LeL.trans : ∀ {t u v : List LV}, LeL t u → LeL u v → LeL t v
  | [], [], [], _, _ => trivial
  | _ :: _, _ :: _, _ :: _, ⟨h2, h3⟩, ⟨g2, g3⟩ => ⟨by
      rcases h2 with rfl | rfl
      · exact g2
      · exact .inr rfl, LeL.trans h3 g3⟩
  | [], [], _ :: _, _, h => h.elim
  | [], _ :: _, _, h, _ => h.elim
  | _ :: _, [], _, h, _ => h.elim
  | _ :: _, _ :: _, [], _, h => h.elim
theorem LeL.kill (u : Nat) : ∀ t, LeL (killL u t) t
  | [] => trivial
  | x :: r => by
    show LeL ((bif x.refq u then .dead else x) :: killL u r) (x :: r)
    cases x.refq u with
    | true => exact ⟨.inr rfl, LeL.kill u r⟩
    | false => exact ⟨.inl rfl, LeL.kill u r⟩
def LeB : Boxes → Boxes → Prop
  | [], [] => True
  | (k, x) :: r, (k', y) :: r' => k = k' ∧ (x = none ∨ ∃ e cs ds, x = some (e, cs) ∧ y = some (e, ds) ∧ LeL cs ds) ∧ LeB r r'
  | _, _ => False
theorem LeB.refl : ∀ t, LeB t t
  | [] => trivial
  | (_, none) :: r => ⟨rfl, .inl rfl, LeB.refl r⟩
  | (_, some (e, cs)) :: r => ⟨rfl, .inr ⟨e, cs, cs, rfl, rfl, LeL.refl cs⟩, LeB.refl r⟩
theorem LeB.trans : ∀ {t u v : Boxes}, LeB t u → LeB u v → LeB t v
  | [], [], [], _, _ => trivial
  | (_, _) :: _, (_, _) :: _, (_, _) :: _, ⟨h1, h2, h3⟩, ⟨g1, g2, g3⟩ => ⟨h1.trans g1, by
      rcases h2 with rfl | ⟨e, cs, ds, rfl, rfl, h⟩
      · exact .inl rfl
      · rcases g2 with g | ⟨e', cs', ds', e1, rfl, g⟩
        · cases g
        · cases e1
          exact .inr ⟨e, cs, ds', rfl, rfl, h.trans g⟩, LeB.trans h3 g3⟩
  | [], [], _ :: _, _, h => h.elim
  | [], _ :: _, _, h, _ => h.elim
  | _ :: _, [], _, h, _ => h.elim
  | (_, _) :: _, (_, _) :: _, [], _, h => h.elim
theorem LeB.length : ∀ {t u : Boxes}, LeB t u → t.length = u.length
  | [], [], _ => rfl
  | (_, _) :: _, (_, _) :: _, ⟨_, _, h⟩ => by rw [List.length_cons, List.length_cons, LeB.length h]
  | [], _ :: _, h => h.elim
  | _ :: _, [], h => h.elim
theorem LeB.drop : ∀ {t u : Boxes} (n : Nat), LeB t u → LeB (t.drop n) (u.drop n)
  | _, _, 0, h => h
  | [], [], _ + 1, _ => trivial
  | (_, _) :: _, (_, _) :: _, n + 1, ⟨_, _, h⟩ => LeB.drop n h
  | [], _ :: _, _ + 1, h => h.elim
  | _ :: _, [], _ + 1, h => h.elim
theorem LeB.kill (u : Nat) : ∀ t, LeB (killBs u t) t
  | [] => trivial
  | (_, none) :: r => ⟨rfl, .inl rfl, LeB.kill u r⟩
  | (_, some (e, cs)) :: r => ⟨rfl, .inr ⟨e, killL u cs, cs, rfl, rfl, LeL.kill u cs⟩, LeB.kill u r⟩

structure Sub (s s' : St) : Prop where
  n : s'.n = s.n
  len : s.t.length ≤ s'.t.length
  le : LeT (s'.t.drop (s'.t.length - s.t.length)) s.t
  lenb : s.b.length ≤ s'.b.length
  leb : LeB (s'.b.drop (s'.b.length - s.b.length)) s.b
  seq : ∃ d, s'.q = d ++ s.q

theorem Sub.refl (s : St) : Sub s s := ⟨rfl, Nat.le_refl _, by rw [Nat.sub_self]; exact LeT.refl _, Nat.le_refl _, by rw [Nat.sub_self]; exact LeB.refl _, [], rfl⟩
theorem Sub.trans {s s1 s2 : St} (h : Sub s s1) (g : Sub s1 s2) : Sub s s2 := by
  refine ⟨g.n.trans h.n, Nat.le_trans h.len g.len, ?_, Nat.le_trans h.lenb g.lenb, ?_, ?_⟩
  · have h1 := LeT.drop (s1.t.length - s.t.length) g.le
    rw [List.drop_drop] at h1
    have := h.len
    have := g.len
    rw [show s2.t.length - s1.t.length + (s1.t.length - s.t.length) = s2.t.length - s.t.length by omega] at h1
    exact h1.trans h.le
  · have h1 := LeB.drop (s1.b.length - s.b.length) g.leb
    rw [List.drop_drop] at h1
    have := h.lenb
    have := g.lenb
    rw [show s2.b.length - s1.b.length + (s1.b.length - s.b.length) = s2.b.length - s.b.length by omega] at h1
    exact h1.trans h.leb
  · obtain ⟨d, hd⟩ := h.seq
    obtain ⟨e, he⟩ := g.seq
    exact ⟨e ++ d, by rw [he, hd, List.append_assoc]⟩
/-- New rows ahead of what was, part of which is forgotten. -/
theorem Sub.mk' {s : St} {dt t : Slots} {db b : Boxes} {dq : Seqs} (hl : LeT t s.t) (hb : LeB b s.b) : Sub s ⟨s.n, dt ++ t, db ++ b, dq ++ s.q⟩ := by
  have h1 := hl.length
  have h2 := hb.length
  refine ⟨rfl, by simp; omega, ?_, by simp; omega, ?_, dq, rfl⟩
  · show LeT ((dt ++ t).drop ((dt ++ t).length - s.t.length)) s.t
    rw [List.length_append, h1, Nat.add_sub_cancel, List.drop_left']
    · exact hl
    · rfl
  · show LeB ((db ++ b).drop ((db ++ b).length - s.b.length)) s.b
    rw [List.length_append, h2, Nat.add_sub_cancel, List.drop_left']
    · exact hb
    · rfl
theorem Sub.put (s : St) (u : Nat) (x : AV) : Sub s (s.put u x) := Sub.mk' (dt := [(u, x)]) (db := []) (dq := []) (LeT.kill u s.t) (LeB.refl _)
theorem Sub.newBox (s : St) (d : Nat) (e : TypeId) (cs : List LV) (x : AV) : Sub s (s.newBox d e cs x) := Sub.mk' (dt := [(d, x)]) (db := [(d, some (e, cs))]) (dq := []) ((LeT.kill d _).trans (LeT.killBox d s.t)) (LeB.refl _)
theorem Sub.setBox (s : St) (i : Nat) (e : TypeId) (cs : List LV) : Sub s (s.setBox i e cs) := Sub.mk' (dt := []) (db := [(i, some (e, cs))]) (dq := []) (LeT.refl _) (LeB.refl _)
theorem Sub.newSeq (s : St) (k : Nat) (q : Sq) : Sub s (s.newSeq k q) := Sub.mk' (dt := []) (db := []) (dq := [(k, some q)]) (LeT.killSq k s.t) (LeB.kill k s.b)
theorem Sub.dropSeq (s : St) (k : Nat) : Sub s (s.dropSeq k) := Sub.mk' (dt := []) (db := []) (dq := [(k, none)]) (LeT.killSq k s.t) (LeB.kill k s.b)
theorem Sub.addSeqs : ∀ (l : List Sq) (s : St) (id : Nat), Sub s (addSeqs s id l)
  | [], s, _ => Sub.refl s
  | q :: r, s, id => (Sub.newSeq s id q).trans (Sub.addSeqs r _ _)
theorem Sub.moveTo (s : St) (u i m : Nat) (q : Sq) : Sub s (moveTo s u i m q) :=
  Sub.mk' (dt := [(u, .sq m)]) (db := []) (dq := [(i, none), (m, some q)]) (((LeT.kill u _).trans (LeT.killSq i _)).trans (LeT.killSq m s.t)) ((LeB.kill i _).trans (LeB.kill m s.b))
theorem Sub.dropS (s : St) : ∀ d : Option Nat, Sub s (dropS s d)
  | none => Sub.refl s
  | some k => Sub.dropSeq s k

theorem step_sub {E : Env} {ops : List Oper} {s s' : St} {o : Oper} {ps : List Prop} (he : stepE E ops s o = some (s', ps)) : Sub s s' := by
  unfold stepE at he
  split at he
  · split at he <;> first | (cases he; done) | skip
    · split at he <;> first | (cases he; done) | skip
      rename_i x qs heff s'' hs
      cases he
      unfold putO at hs
      split at hs
      · rename_i d _
        cases hb : Nat.blt d s.n with
        | false => rw [hb] at hs; cases hs
        | true => rw [hb] at hs; obtain rfl := Option.some.inj hs; exact Sub.put s d _
      · obtain rfl := Option.some.inj hs; exact Sub.refl s
    · rename_i e cs x qs heff
      cases hd : o.dst with
      | none => rw [hd] at he; cases he
      | some d =>
        rw [hd] at he
        simp only at he
        cases hb : Nat.blt d s.n with
        | false => rw [hb] at he; cases he
        | true => rw [hb] at he; cases he; exact Sub.newBox s d e cs x
    · cases he
      exact Sub.setBox s _ _ _
    · rename_i x news drop qs heff
      cases hd : o.dst with
      | none => rw [hd] at he; cases he
      | some d =>
        rw [hd] at he
        simp only at he
        cases hb : Nat.blt d s.n with
        | false => rw [hb] at he; cases he
        | true =>
          cases hx : x.simple with
          | false => rw [hb, hx] at he; cases he
          | true =>
            cases hl : x.ltB news.length with
            | false => rw [hb, hx, hl] at he; cases he
            | true =>
              rw [hb, hx, hl] at he
              cases he
              exact ((Sub.dropS s drop).trans (Sub.addSeqs news _ _)).trans (Sub.put _ _ _)
  · split at he <;> first | (cases he; done) | skip
    rename_i u hu
    split at he <;> first | (cases he; done) | skip
    rotate_left
    · rename_i x news drop qs heff
      split at he <;> first | (cases he; done) | skip
      split at he <;> first | (cases he; done) | skip
      rename_i d hd
      cases hb : Nat.blt d s.n with
      | false => rw [hb] at he; cases he
      | true =>
        cases hx : x.simple with
        | false => rw [hb, hx] at he; cases he
        | true =>
          cases hl : x.ltB news.length with
          | false => rw [hb, hx, hl] at he; cases he
          | true =>
            rw [hb, hx, hl] at he
            cases he
            exact ((Sub.dropS s drop).trans (Sub.addSeqs news _ _)).trans (Sub.put _ _ _)
    rename_i x qs heff
    split at he <;> first | (cases he; done) | skip
    rename_i d hd
    cases hb : Nat.blt d s.n with
    | false => rw [hb] at he; cases he
    | true =>
      cases hdu : Nat.beq d u with
      | true => rw [hb, hdu] at he; cases he
      | false => rw [hb, hdu] at he; cases he; exact Sub.put s d _
theorem list_sub {E : Env} {ops : List Oper} : ∀ {l : List Oper} {s s' : St} {ps : List Prop}, evL E ops l s = some (s', ps) → Sub s s'
  | [], s, s', ps, he => by cases he; exact Sub.refl s
  | o :: r, s, s', ps, he => by
    unfold evL at he
    split at he <;> first | (cases he; done) | skip
    rename_i s1 ps1 h1
    split at he <;> first | (cases he; done) | skip
    rename_i s2 ps2 h2
    cases he
    exact (step_sub h1).trans (list_sub h2)
theorem evK_sub {E : Env} {ops : List Oper} : ∀ {l : List Nat} {s s' : St} {ks : List Nat} {ps : List Prop}, evK E ops l s = some (ks, s', ps) → Sub s s'
  | [], s, s', ks, ps, he => by cases he; exact Sub.refl s
  | i :: r, s, s', ks, ps, he => by
    unfold evK at he
    split at he <;> first | (cases he; done) | skip
    split at he <;> first | (cases he; done) | skip
    split at he <;> first | (cases he; done) | skip
    rename_i s1 ps1 h1
    split at he <;> first | (cases he; done) | skip
    rename_i ks2 s2 ps2 h2
    cases he
    exact (step_sub h1).trans (evK_sub h2)
theorem region_sub {E : Env} {ops : List Oper} {draw : Bool} {s s' : St} {ps : List Prop} (he : evR E ops draw s = some (s', ps)) : Sub s s' := by
  cases draw with
  | false => exact list_sub he
  | true =>
    unfold evR at he
    simp only at he
    unfold evDraw at he
    split at he <;> first | (cases he; done) | skip
    rename_i ks s1 ps1 h1
    generalize canonB ops.toArray (plan E.P ops) ks = q at he
    cases q <;> first | (cases he; done) | skip
    cases he
    exact evK_sub h1

/-! ### what is looked up in the two put together -/
theorem look_append (u : Nat) : ∀ (A B : Slots), look u (A ++ B) = match look u A with | some x => some x | none => look u B
  | [], B => rfl
  | (k, x) :: r, B => by
    show (bif Nat.beq k u then some x else look u (r ++ B)) = match (bif Nat.beq k u then some x else look u r) with | some x => some x | none => look u B
    cases Nat.beq k u with
    | true => rfl
    | false => exact look_append u r B
theorem look_none {u : Nat} : ∀ {A : Slots}, u ∉ keys A → look u A = none
  | [], _ => rfl
  | (k, x) :: r, h => by
    have hk : Nat.beq k u = false := by
      cases hb : Nat.beq k u with
      | true => exact absurd (by rw [Nat.eq_of_beq_eq_true hb]; exact List.mem_cons_self ..) h
      | false => rfl
    show (bif Nat.beq k u then some x else look u r) = none
    rw [hk]
    exact look_none fun hm => h (List.mem_cons_of_mem _ hm)
theorem look_mergeKeys {g : Bool} {t1 t2 : Slots} {u : Nat} : ∀ {l : List Nat}, (u ∈ l → look u (mergeKeys g t1 t2 l) = some (merge2 g (look u t1) (look u t2))) ∧ (u ∉ l → look u (mergeKeys g t1 t2 l) = none)
  | [] => ⟨fun h => (by cases h), fun _ => rfl⟩
  | k :: r => by
    have ih := look_mergeKeys (g := g) (t1 := t1) (t2 := t2) (u := u) (l := r)
    constructor
    · intro h
      show (bif Nat.beq k u then some (merge2 g (look k t1) (look k t2)) else look u (mergeKeys g t1 t2 r)) = _
      cases hb : Nat.beq k u with
      | true => rw [Nat.eq_of_beq_eq_true hb]; rfl
      | false =>
        rcases List.mem_cons.1 h with rfl | h
        · simp at hb
        · exact ih.1 h
    · intro h
      have hk : Nat.beq k u = false := by
        cases hb : Nat.beq k u with
        | true => exact absurd (by rw [Nat.eq_of_beq_eq_true hb]; exact List.mem_cons_self ..) h
        | false => rfl
      show (bif Nat.beq k u then some (merge2 g (look k t1) (look k t2)) else look u (mergeKeys g t1 t2 r)) = none
      rw [hk]
      exact ih.2 fun hm => h (List.mem_cons_of_mem _ hm)
theorem look_zip {u : Nat} {z : AV} : ∀ {A B T : Slots}, LeT A T → LeT B T → look u (zipDead A B) = some z → z = .dead ∨ (look u A = some z ∧ look u B = some z)
  | [], _, _, _, _, h => by simp [zipDead, look] at h
  | _ :: _, [], _, _, _, h => by simp [zipDead, look] at h
  | (k, x) :: r, (k', y) :: r', (k'', w) :: r'', ⟨h1, h2, h3⟩, ⟨g1, g2, g3⟩, h => by
    have hkk : k' = k := g1.trans h1.symm
    subst hkk
    have h' : (bif Nat.beq k' u then some (deadA x y) else look u (zipDead r r')) = some z := h
    show z = .dead ∨ ((bif Nat.beq k' u then some x else look u r) = some z ∧ (bif Nat.beq k' u then some y else look u r') = some z)
    cases hb : Nat.beq k' u with
    | false => rw [hb] at h'; exact look_zip h3 g3 h'
    | true =>
      rw [hb] at h'
      have hz : deadA x y = z := Option.some.inj h'
      rcases h2 with rfl | rfl
      · rcases g2 with rfl | rfl
        · right
          have : deadA y y = y := by cases y <;> rfl
          rw [this] at hz
          exact ⟨congrArg some hz, congrArg some hz⟩
        · left
          rw [← hz]
          cases x <;> rfl
      · left
        rw [← hz]
        rfl
  | _ :: _, _ :: _, [], h, _, _ => h.elim
theorem look_split {u : Nat} (t : Slots) (n : Nat) (h : u ∉ keys (t.take n)) : look u t = look u (t.drop n) := by
  conv => lhs; rw [← List.take_append_drop n t]
  rw [look_append, look_none h]

theorem lookB_in {i : Nat} : ∀ {A B : Boxes}, i ∈ keysB A → lookB i (A ++ B) = lookB i A
  | [], _, h => by cases h
  | (k, x) :: r, B, h => by
    show (bif Nat.beq k i then x else lookB i (r ++ B)) = (bif Nat.beq k i then x else lookB i r)
    cases hb : Nat.beq k i with
    | true => rfl
    | false =>
      rcases List.mem_cons.1 h with rfl | h
      · simp at hb
      · exact lookB_in h
theorem lookB_out {i : Nat} : ∀ {A B : Boxes}, i ∉ keysB A → lookB i (A ++ B) = lookB i B
  | [], _, _ => rfl
  | (k, x) :: r, B, h => by
    have hk : Nat.beq k i = false := by
      cases hb : Nat.beq k i with
      | true => exact absurd (by rw [Nat.eq_of_beq_eq_true hb]; exact List.mem_cons_self ..) h
      | false => rfl
    show (bif Nat.beq k i then x else lookB i (r ++ B)) = lookB i B
    rw [hk]
    exact lookB_out fun hm => h (List.mem_cons_of_mem _ hm)
theorem lookQ_in {i : Nat} : ∀ {A B : Seqs}, i ∈ keysQ A → lookQ i (A ++ B) = lookQ i A
  | [], _, h => by cases h
  | (k, x) :: r, B, h => by
    show (bif Nat.beq k i then x else lookQ i (r ++ B)) = (bif Nat.beq k i then x else lookQ i r)
    cases hb : Nat.beq k i with
    | true => rfl
    | false =>
      rcases List.mem_cons.1 h with rfl | h
      · simp at hb
      · exact lookQ_in h
theorem lookQ_out {i : Nat} : ∀ {A B : Seqs}, i ∉ keysQ A → lookQ i (A ++ B) = lookQ i B
  | [], _, _ => rfl
  | (k, x) :: r, B, h => by
    have hk : Nat.beq k i = false := by
      cases hb : Nat.beq k i with
      | true => exact absurd (by rw [Nat.eq_of_beq_eq_true hb]; exact List.mem_cons_self ..) h
      | false => rfl
    show (bif Nat.beq k i then x else lookQ i (r ++ B)) = lookQ i B
    rw [hk]
    exact lookQ_out fun hm => h (List.mem_cons_of_mem _ hm)
theorem keysB_mergeBs (g : Bool) (b1 b2 : Boxes) : ∀ l, keysB (mergeBs g b1 b2 l) = l
  | [] => rfl
  | i :: r => by
    show i :: keysB (mergeBs g b1 b2 r) = i :: r
    rw [keysB_mergeBs g b1 b2 r]
theorem lookB_mergeBs {g : Bool} {b1 b2 : Boxes} {i : Nat} : ∀ {l : List Nat}, i ∈ l → lookB i (mergeBs g b1 b2 l) = mergeBox g (lookB i b1) (lookB i b2)
  | [], h => by cases h
  | k :: r, h => by
    show (bif Nat.beq k i then mergeBox g (lookB k b1) (lookB k b2) else lookB i (mergeBs g b1 b2 r)) = _
    cases hb : Nat.beq k i with
    | true => rw [Nat.eq_of_beq_eq_true hb]; rfl
    | false =>
      rcases List.mem_cons.1 h with rfl | h
      · simp at hb
      · exact lookB_mergeBs h
theorem keysQ_mergeQs (g : Bool) (b1 b2 : Seqs) : ∀ l, keysQ (mergeQs g b1 b2 l) = l
  | [] => rfl
  | i :: r => by
    show i :: keysQ (mergeQs g b1 b2 r) = i :: r
    rw [keysQ_mergeQs g b1 b2 r]
theorem lookQ_mergeQs {g : Bool} {b1 b2 : Seqs} {i : Nat} : ∀ {l : List Nat}, i ∈ l → lookQ i (mergeQs g b1 b2 l) = mergeSq g (lookQ i b1) (lookQ i b2)
  | [], h => by cases h
  | k :: r, h => by
    show (bif Nat.beq k i then mergeSq g (lookQ k b1) (lookQ k b2) else lookQ i (mergeQs g b1 b2 r)) = _
    cases hb : Nat.beq k i with
    | true => rw [Nat.eq_of_beq_eq_true hb]; rfl
    | false =>
      rcases List.mem_cons.1 h with rfl | h
      · simp at hb
      · exact lookQ_mergeQs h
theorem lookB_split {i : Nat} (t : Boxes) (n : Nat) (h : i ∉ keysB (t.take n)) : lookB i t = lookB i (t.drop n) := by
  conv => lhs; rw [← List.take_append_drop n t]
  exact lookB_out h

theorem mergeLV_ok {N : Nm} {g : Bool} {x y : LV} {v : Value} (h : LVIs N (bif g then x else y) v) : LVIs N (mergeLV g x y) v := by
  unfold mergeLV
  split
  · rename_i x y
    split
    · rename_i z hz
      have := mergeV_ok hz
      show v = z
      rw [this]
      cases g <;> exact h
    · trivial
  · rename_i i j
    cases h1 : Nat.beq i j with
    | false => trivial
    | true =>
      obtain rfl := Nat.eq_of_beq_eq_true h1
      cases g <;> exact h
  · trivial
theorem mergeLs_ok {N : Nm} {g : Bool} : ∀ {xs ys zs : List LV} {vs : List Value}, mergeLs g xs ys = some zs → CellsAre N (bif g then xs else ys) vs → CellsAre N zs vs
  | [], [], zs, vs, h, hc => by cases h; cases g <;> exact hc
  | x :: xs, y :: ys, zs, vs, h, hc => by
    unfold mergeLs at h
    cases hr : mergeLs g xs ys with
    | none => rw [hr] at h; cases h
    | some zs' =>
      rw [hr] at h
      cases h
      cases vs with
      | nil => cases g <;> exact hc.elim
      | cons v vs =>
        have h1 : LVIs N (bif g then x else y) v := by cases g <;> exact hc.1
        have h2 : CellsAre N (bif g then xs else ys) vs := by cases g <;> exact hc.2
        exact ⟨mergeLV_ok h1, mergeLs_ok hr h2⟩
  | [], _ :: _, _, _, h, _ => by cases h
  | _ :: _, [], _, _, h, _ => by cases h
theorem zipL_ok {N : Nm} : ∀ {xs ys ts : List LV} {vs : List Value}, LeL xs ts → LeL ys ts → (CellsAre N xs vs ∨ CellsAre N ys vs) → CellsAre N (zipL xs ys) vs
  | [], [], [], vs, _, _, h => by
    have : CellsAre N [] vs := by rcases h with h | h <;> exact h
    exact this
  | x :: xs, y :: ys, t :: ts, vs, ⟨h1, h2⟩, ⟨g1, g2⟩, h => by
    cases vs with
    | nil => rcases h with h | h <;> exact h.elim
    | cons v vs =>
      have hr : CellsAre N (zipL xs ys) vs := zipL_ok h2 g2 (by rcases h with h | h; exact .inl h.2; exact .inr h.2)
      refine ⟨?_, hr⟩
      rcases h1 with rfl | rfl
      · rcases g1 with rfl | rfl
        · have hd : deadLV y y = y := by cases y <;> rfl
          rw [hd]
          rcases h with h | h <;> exact h.1
        · cases x <;> trivial
      · trivial
  | [], [], _ :: _, _, h, _, _ => h.elim
  | [], _ :: _, [], _, _, h, _ => h.elim
  | _ :: _, _, [], _, h, _, _ => h.elim
  | [], _ :: _, _ :: _, _, h, _, _ => h.elim
  | _ :: _, [], _ :: _, _, _, h, _ => h.elim
theorem lookB_zip {i : Nat} {e : TypeId} {zs : List LV} : ∀ {A B T : Boxes}, LeB A T → LeB B T → lookB i (zipBs A B) = some (e, zs) → ∃ cs ds ts, lookB i A = some (e, cs) ∧ lookB i B = some (e, ds) ∧ zs = zipL cs ds ∧ LeL cs ts ∧ LeL ds ts
  | [], [], _, _, _, h => by cases h
  | [], _ :: _, _, _, _, h => by cases h
  | (_, none) :: _, [], _, _, _, h => by cases h
  | (_, some _) :: _, [], _, _, _, h => by cases h
  | (k, x) :: r, (k', y) :: r', (k'', w) :: r'', ⟨h1, h2, h3⟩, ⟨g1, g2, g3⟩, h => by
    have hkk : k' = k := g1.trans h1.symm
    subst hkk
    cases x with
    | none =>
      have h' : (bif Nat.beq k' i then none else lookB i (zipBs r r')) = some (e, zs) := h
      show ∃ cs ds ts, (bif Nat.beq k' i then none else lookB i r) = _ ∧ (bif Nat.beq k' i then y else lookB i r') = _ ∧ _
      cases hb : Nat.beq k' i with
      | true => rw [hb] at h'; cases h'
      | false => rw [hb] at h'; exact lookB_zip h3 g3 h'
    | some x =>
      obtain ⟨ex, cs⟩ := x
      cases y with
      | none =>
        have h' : (bif Nat.beq k' i then none else lookB i (zipBs r r')) = some (e, zs) := h
        show ∃ cs ds ts, (bif Nat.beq k' i then _ else lookB i r) = _ ∧ (bif Nat.beq k' i then none else lookB i r') = _ ∧ _
        cases hb : Nat.beq k' i with
        | true => rw [hb] at h'; cases h'
        | false => rw [hb] at h'; exact lookB_zip h3 g3 h'
      | some y =>
        obtain ⟨ey, ds⟩ := y
        have h' : (bif Nat.beq k' i then some (ex, zipL cs ds) else lookB i (zipBs r r')) = some (e, zs) := h
        show ∃ cs' ds' ts, (bif Nat.beq k' i then some (ex, cs) else lookB i r) = _ ∧ (bif Nat.beq k' i then some (ey, ds) else lookB i r') = _ ∧ _
        cases hb : Nat.beq k' i with
        | false => rw [hb] at h'; exact lookB_zip h3 g3 h'
        | true =>
          rw [hb] at h'
          cases h'
          rcases h2 with h2 | ⟨e1, c1, d1, a1, a2, a3⟩
          · cases h2
          · rcases g2 with g2 | ⟨e2, c2, d2, b1, b2, b3⟩
            · cases g2
            · cases a1
              cases b1
              rw [a2] at b2
              cases b2
              exact ⟨cs, ds, d1, rfl, rfl, rfl, a3, b3⟩
  | (_, _) :: _, (_, _) :: _, [], h, _, _ => h.elim

theorem look_merge {s s1 s2 : St} (h1 : Sub s s1) (h2 : Sub s s2) {g : Bool} {u : Nat} {z : AV} (h : look u (mergeT g s.t.length s1.t s2.t) = some z) :
    z = .dead ∨ (∃ x y, look u s1.t = some x ∧ look u s2.t = some y ∧ z = mergeA g x y) ∨ (look u s1.t = some z ∧ look u s2.t = some z) := by
  unfold mergeT at h
  generalize hA : s1.t.length - s.t.length = n1 at h
  generalize hB : s2.t.length - s.t.length = n2 at h
  rw [look_append] at h
  by_cases hm : u ∈ keys (s1.t.take n1) ++ keys (s2.t.take n2)
  · rw [look_mergeKeys.1 hm] at h
    have h' : merge2 g (look u s1.t) (look u s2.t) = z := Option.some.inj h
    unfold merge2 at h'
    split at h'
    · rename_i x y hx hy
      exact .inr (.inl ⟨x, y, hx, hy, h'.symm⟩)
    · exact .inl h'.symm
  · rw [look_mergeKeys.2 hm] at h
    have h' : look u (zipDead (s1.t.drop n1) (s2.t.drop n2)) = some z := h
    rcases look_zip (by rw [← hA]; exact h1.le) (by rw [← hB]; exact h2.le) h' with hd | ⟨g1, g2⟩
    · exact .inl hd
    · refine .inr (.inr ⟨?_, ?_⟩)
      · rw [look_split s1.t n1 fun hh => hm (List.mem_append.2 (.inl hh))]; exact g1
      · rw [look_split s2.t n2 fun hh => hm (List.mem_append.2 (.inr hh))]; exact g2
theorem box_merge {s s1 s2 : St} (h1 : Sub s s1) (h2 : Sub s s2) {g : Bool} {i : Nat} {e : TypeId} {cs : List LV} (h : lookB i (mergeB g s.b.length s1.b s2.b) = some (e, cs)) :
    ∃ cs', lookB i (bif g then s1.b else s2.b) = some (e, cs') ∧ ∀ (N : Nm) vs, CellsAre N cs' vs → CellsAre N cs vs := by
  unfold mergeB at h
  generalize hA : s1.b.length - s.b.length = n1 at h
  generalize hB : s2.b.length - s.b.length = n2 at h
  by_cases hm : i ∈ keysB (s1.b.take n1) ++ keysB (s2.b.take n2)
  · rw [lookB_in (by rw [keysB_mergeBs]; exact hm), lookB_mergeBs hm] at h
    unfold mergeBox at h
    split at h <;> first | (cases h; done) | skip
    rename_i f1 c1 f2 c2 g1 g2
    cases hb : Nat.beq f1 f2 with
    | false => rw [hb] at h; cases h
    | true =>
      rw [hb] at h
      simp only [cond_true] at h
      obtain rfl := Nat.eq_of_beq_eq_true hb
      split at h <;> first | (cases h; done) | skip
      rename_i zs hz
      cases h
      cases g with
      | true => exact ⟨c1, g1, fun N vs hc => mergeLs_ok hz hc⟩
      | false => exact ⟨c2, g2, fun N vs hc => mergeLs_ok hz hc⟩
  · rw [lookB_out (by rw [keysB_mergeBs]; exact hm)] at h
    have n1' : i ∉ keysB (s1.b.take n1) := fun hh => hm (List.mem_append.2 (.inl hh))
    have n2' : i ∉ keysB (s2.b.take n2) := fun hh => hm (List.mem_append.2 (.inr hh))
    obtain ⟨c1, c2, ts, e1, e2, rfl, l1, l2⟩ := lookB_zip (by rw [← hA]; exact h1.leb) (by rw [← hB]; exact h2.leb) h
    cases g with
    | true => exact ⟨c1, (lookB_split s1.b n1 n1').trans e1, fun N vs hc => zipL_ok l1 l2 (.inl hc)⟩
    | false => exact ⟨c2, (lookB_split s2.b n2 n2').trans e2, fun N vs hc => zipL_ok l1 l2 (.inr hc)⟩
/-- 'q' says no more than 'q0'. -/
def SqLe (q q0 : Sq) : Prop := q.e = q0.e ∧ q.size = q0.size ∧ q.n = q0.n ∧ q.xs = q0.xs ∧ q.kid = q0.kid ∧ (q.own = true → q0.own = true)
theorem SqLe.seq {base : Nat} {R : World} {v : Value} {zs : List Value} {q q0 : Sq} (h : SqLe q q0) (hs : SeqR base R v zs q0) : SeqR base R v zs q := by
  obtain ⟨o, e, sz, n, xs, kid⟩ := q
  obtain ⟨o0, e0, sz0, n0, xs0, kid0⟩ := q0
  obtain ⟨h1, h2, h3, h4, h5, h6⟩ := h
  simp only at h1 h2 h3 h4 h5 h6
  subst h1 h2 h3 h4 h5
  exact ⟨hs.flat, fun ho => hs.own (h6 ho), hs.alike, hs.kids⟩
theorem SqLe.touch {v : Value} {zs : List Value} {q q0 : Sq} (h : SqLe q q0) {g : Nat} (ht : Touch v zs q g) : Touch v zs q0 g := by
  obtain ⟨o, e, sz, n, xs, kid⟩ := q
  obtain ⟨o0, e0, sz0, n0, xs0, kid0⟩ := q0
  obtain ⟨h1, h2, h3, h4, h5, h6⟩ := h
  simp only at h1 h2 h3 h4 h5 h6
  subst h1 h2 h3 h4 h5
  rcases ht with ⟨h1, h2⟩ | h1
  · exact .inl ⟨h1.imp id h6, h2⟩
  · exact .inr h1
theorem seq_merge {s s1 s2 : St} (h1 : Sub s s1) (h2 : Sub s s2) {g : Bool} {i : Nat} {q : Sq} (h : lookQ i (mergeQ g s.q.length s1.q s2.q) = some q) : ∃ q0, lookQ i (bif g then s1.q else s2.q) = some q0 ∧ SqLe q q0 := by
  obtain ⟨d1, e1⟩ := h1.seq
  obtain ⟨d2, e2⟩ := h2.seq
  have t1 : s1.q.take (s1.q.length - s.q.length) = d1 := by rw [e1, List.length_append, Nat.add_sub_cancel, List.take_left']; rfl
  have t2 : s2.q.take (s2.q.length - s.q.length) = d2 := by rw [e2, List.length_append, Nat.add_sub_cancel, List.take_left']; rfl
  have u1 : s1.q.drop (s1.q.length - s.q.length) = s.q := by rw [e1, List.length_append, Nat.add_sub_cancel, List.drop_left']; rfl
  unfold mergeQ at h
  rw [t1, t2, u1] at h
  by_cases hm : i ∈ keysQ d1 ++ keysQ d2
  · rw [lookQ_in (by rw [keysQ_mergeQs]; exact hm), lookQ_mergeQs hm] at h
    unfold mergeSq at h
    split at h <;> first | (cases h; done) | skip
    rename_i o e sz n xs o' e' sz' n' xs' g1 g2
    cases hb : Nat.beq e e' with
    | false => rw [hb] at h; cases h
    | true =>
      cases hb2 : Nat.beq sz sz' with
      | false => rw [hb, hb2] at h; cases h
      | true =>
        rw [hb, hb2] at h
        obtain rfl := Nat.eq_of_beq_eq_true hb
        obtain rfl := Nat.eq_of_beq_eq_true hb2
        cases h
        cases g with
        | true => exact ⟨_, g1, rfl, rfl, rfl, rfl, rfl, fun h => by simp at h; exact h.1⟩
        | false => exact ⟨_, g2, rfl, rfl, rfl, rfl, rfl, fun h => by simp at h; exact h.2⟩
  · rw [lookQ_out (by rw [keysQ_mergeQs]; exact hm)] at h
    have n1 : i ∉ keysQ d1 := fun hh => hm (List.mem_append.2 (.inl hh))
    have n2 : i ∉ keysQ d2 := fun hh => hm (List.mem_append.2 (.inr hh))
    refine ⟨q, ?_, rfl, rfl, rfl, rfl, rfl, id⟩
    cases g with
    | true => show lookQ i s1.q = _; rw [e1, lookQ_out n1]; exact h
    | false => show lookQ i s2.q = _; rw [e2, lookQ_out n2]; exact h

theorem Rel.merge0 {E : Env} {B : World} {N : Nm} {s s1 s2 : St} {a : Act} {R : World} (h1 : Sub s s1) (h2 : Sub s s2) {g : Bool} (h : RelE E B N (bif g then s1 else s2) a R) : RelE E B N (Go.Proofs.Yteebobbhhgmeiaa.merge0 g s.t.length s.b.length s.q.length s1 s2) a R := by
  have hbx : ∀ i e cs, (Go.Proofs.Yteebobbhhgmeiaa.merge0 g s.t.length s.b.length s.q.length s1 s2).box i = some (e, cs) → ∃ cs', (bif g then s1 else s2).box i = some (e, cs') ∧ ∀ (N : Nm) vs, CellsAre N cs' vs → CellsAre N cs vs := fun i e cs hi => by
    obtain ⟨cs', h3, h4⟩ := box_merge h1 h2 hi
    exact ⟨cs', by cases g <;> exact h3, h4⟩
  have hsq : ∀ k q, (Go.Proofs.Yteebobbhhgmeiaa.merge0 g s.t.length s.b.length s.q.length s1 s2).seq k = some q → ∃ q0, (bif g then s1 else s2).seq k = some q0 ∧ SqLe q q0 := fun k q hk => by
    obtain ⟨q0, h3, h4⟩ := seq_merge h1 h2 hk
    exact ⟨q0, by cases g <;> exact h3, h4⟩
  refine ⟨h.defers, ?_, fun u z hu => ?_, fun i e cs hi => ?_, fun i j x y hi hj hij => ?_, fun k q hk => ?_, fun k q gg hk hg i x hi => ?_, fun k q gg hk ho hg => ?_, h.bel⟩
  · have := h.size
    cases g with
    | true => exact this
    | false => exact this.trans (h2.n.trans h1.n.symm)
  · rcases look_merge h1 h2 hu with rfl | ⟨x, y, hx, hy, rfl⟩ | ⟨hx, hy⟩
    · trivial
    · refine mergeA_ok ?_
      cases g with
      | true => exact h.slots u x hx
      | false => exact h.slots u y hy
    · cases g with
      | true => exact h.slots u z hx
      | false => exact h.slots u z hy
  · obtain ⟨cs', h3, h4⟩ := hbx i e cs hi
    obtain ⟨g1, vs, g2, g3⟩ := h.boxes i e cs' h3
    exact ⟨g1, vs, h4 N vs g2, g3⟩
  · obtain ⟨_, h3, _⟩ := hbx i x.1 x.2 hi
    obtain ⟨_, h4, _⟩ := hbx j y.1 y.2 hj
    exact h.inj i j _ _ h3 h4 hij
  · obtain ⟨q0, h3, h4⟩ := hsq k q hk
    exact h4.seq (h.seqs k q0 h3)
  · obtain ⟨q0, h3, h4⟩ := hsq k q hk
    obtain ⟨_, h5, _⟩ := hbx i x.1 x.2 hi
    exact h.sepB k q0 gg h3 (h4.touch hg) i _ h5
  · obtain ⟨q0, h3, h4⟩ := hsq k q hk
    obtain ⟨h5, h6⟩ := h.sepQ k q0 gg h3 (h4.2.2.2.2.2 ho) hg
    refine ⟨fun k' q' hne hk' ht => ?_, fun K i v' hK hi hv => ?_⟩
    · obtain ⟨q0', h7, h8⟩ := hsq k' q' hk'
      exact h5 k' q0' hne h7 (h8.touch ht)
    · obtain ⟨_, e2, e3, _, e5, _⟩ := h4
      rw [e2] at hv
      rw [e3] at hi
      exact h6 K i v' (e5 ▸ hK) hi hv

theorem Rel.moveTo {E : Env} {B : World} {N : Nm} {s : St} {a : Act} {R : World} (h : RelE E B N s a R) {u i m : Nat} {q : Sq} (hu : look u s.t = some (.sq i)) (hq : lookQ i s.q = some q) (him : i ≠ m) (hm : lookQ m s.q = none) :
    RelE E B (N.setQ m (N.q i) (N.z i)) (Go.Proofs.Yteebobbhhgmeiaa.moveTo s u i m q) a R := by
  have hs : ∀ j, j ≠ m → (N.setQ m (N.q i) (N.z i)).q j = N.q j := fun j hj => setF_ne N.q _ hj
  have hz : ∀ j, j ≠ m → (N.setQ m (N.q i) (N.z i)).z j = N.z j := fun j hj => setF_ne N.z _ hj
  have hsk : (N.setQ m (N.q i) (N.z i)).q m = N.q i := setF_same N.q m _
  have hzk : (N.setQ m (N.q i) (N.z i)).z m = N.z i := setF_same N.z m _
  have hseq : ∀ j q', (Go.Proofs.Yteebobbhhgmeiaa.moveTo s u i m q).seq j = some q' → (j = m ∧ q' = q) ∨ (j ≠ m ∧ j ≠ i ∧ s.seq j = some q') := fun j q' hj => by
    have hj' : lookQ j ((i, none) :: (m, some q) :: s.q) = some q' := hj
    rw [seq_cons] at hj'
    by_cases hji : j = i
    · rw [if_pos hji] at hj'; cases hj'
    · rw [if_neg hji, seq_cons] at hj'
      by_cases hjm : j = m
      · rw [if_pos hjm] at hj'; cases hj'; exact .inl ⟨hjm, rfl⟩
      · rw [if_neg hjm] at hj'; exact .inr ⟨hjm, hji, hj'⟩
  have hbox : ∀ b x, (Go.Proofs.Yteebobbhhgmeiaa.moveTo s u i m q).box b = some x → ∃ cs0, s.box b = some (x.1, cs0) ∧ x.2 = killL i (killL m cs0) := fun b x hb => by
    obtain ⟨c1, g1, g2⟩ := lookB_killBs (e := x.1) (cs := x.2) (b := killBs m s.b) hb
    obtain ⟨c2, g3, g4⟩ := lookB_killBs g1
    exact ⟨c2, g3, by rw [g2, g4]⟩
  refine ⟨h.defers, h.size, fun w z hw => ?_, fun b e cs hb => ?_, fun b j x y hb hj hij => ?_, fun k q' hk => ?_, fun k q' g hk hg b x hb => ?_, fun k q' g hk ho hg => ?_, h.bel⟩
  · have hw' : (bif Nat.beq u w then some (.sq m) else look w (kill u (killSq i (killSq m s.t)))) = some z := hw
    cases hk : Nat.beq u w with
    | true =>
      rw [hk] at hw'
      obtain rfl := Option.some.inj hw'
      obtain rfl := Nat.eq_of_beq_eq_true hk
      have := h.slots u _ hu
      exact ⟨rfl, by show _ = (N.setQ m (N.q i) (N.z i)).q m; rw [hsk]; exact this.2⟩
    | false =>
      rw [hk] at hw'
      rcases look_kill hw' with rfl | ⟨h3, _⟩
      · trivial
      · rcases look_killSq h3 with rfl | ⟨h4, _⟩
        · trivial
        · rcases look_killSq h4 with rfl | ⟨h5, h6⟩
          · trivial
          · exact holds_sq (N := N) (N' := N.setQ m (N.q i) (N.z i)) rfl hs h6 (h.slots w z h5)
  · obtain ⟨cs0, h3, h4⟩ := hbox b (e, cs) hb
    obtain ⟨g1, vs, g2, g3⟩ := h.boxes b e cs0 h3
    have h4' : cs = killL i (killL m cs0) := h4
    rw [h4']
    exact ⟨g1, vs, cells_sq (N := N.setQ m (N.q i) (N.z i)) (fun _ _ => rfl) (cells_sq (N := N) (N' := N.setQ m (N.q i) (N.z i)) hs g2), g3⟩
  · obtain ⟨_, h3, _⟩ := hbox b x hb
    obtain ⟨_, h4, _⟩ := hbox j y hj
    exact h.inj b j _ _ h3 h4 hij
  · rcases hseq k q' hk with ⟨rfl, rfl⟩ | ⟨h3, _, h4⟩
    · rw [hsk, hzk]; exact h.seqs i q' hq
    · rw [hs k h3, hz k h3]; exact h.seqs k q' h4
  · obtain ⟨_, h5, _⟩ := hbox b x hb
    rcases hseq k q' hk with ⟨rfl, rfl⟩ | ⟨h3, _, h4⟩
    · rw [hsk, hzk] at hg; exact h.sepB i q' g hq hg b _ h5
    · rw [hs k h3, hz k h3] at hg; exact h.sepB k q' g h4 hg b _ h5
  · rcases hseq k q' hk with ⟨rfl, rfl⟩ | ⟨h3, h3', h4⟩
    · rw [hsk] at hg
      obtain ⟨h5, h6⟩ := h.sepQ i q' g hq ho hg
      refine ⟨fun k' q'' hne hk' ht => ?_, fun K j v' hK hj hv => ?_⟩
      · rcases hseq k' q'' hk' with ⟨rfl, rfl⟩ | ⟨e3, e3', e4⟩
        · exact hne rfl
        · rw [hs k' e3, hz k' e3] at ht
          exact h5 k' q'' e3' e4 ht
      · rw [hzk] at hv
        exact h6 K j v' hK hj hv
    · rw [hs k h3] at hg
      obtain ⟨h5, h6⟩ := h.sepQ k q' g h4 ho hg
      refine ⟨fun k' q'' hne hk' ht => ?_, fun K j v' hK hj hv => ?_⟩
      · rcases hseq k' q'' hk' with ⟨rfl, rfl⟩ | ⟨e3, _, e4⟩
        · rw [hsk, hzk] at ht
          exact h5 i q'' (fun e => h3' e.symm) hq ht
        · rw [hs k' e3, hz k' e3] at ht
          exact h5 k' q'' hne e4 ht
      · rw [hz k h3] at hv
        exact h6 K j v' hK hj hv
theorem ne_of_beq {i j : Nat} (h : Nat.beq i j = false) : i ≠ j := fun e => by subst e; simp at h
theorem align_ok {E : Env} {B : World} {a : Act} {R : World} {g : Bool} {s : St} : ∀ {l : List Nat} {s1 s2 : St} {N : Nm}, Sub s s1 → Sub s s2 → RelE E B N (bif g then s1 else s2) a R →
    Sub s (align s1 s2 l).1 ∧ Sub s (align s1 s2 l).2 ∧ ∃ N', RelE E B N' (bif g then (align s1 s2 l).1 else (align s1 s2 l).2) a R
  | [], s1, s2, N, h1, h2, h => ⟨h1, h2, N, h⟩
  | u :: r, s1, s2, N, h1, h2, h => by
    unfold align
    split
    · rename_i i j hi hj
      split
      · rename_i q q' hq hq'
        generalize hmm : 1000000 + 1000 * u + s1.q.length + s2.q.length = m
        cases e1 : Nat.beq i j with
        | true => exact align_ok h1 h2 h
        | false =>
          cases e2 : Nat.beq i m with
          | true => exact align_ok h1 h2 h
          | false =>
            cases e3 : Nat.beq j m with
            | true => exact align_ok h1 h2 h
            | false =>
              simp only [cond_false]
              split
              · rename_i f1 f2
                refine align_ok (N := N.setQ m (N.q (bif g then i else j)) (N.z (bif g then i else j))) (h1.trans (Sub.moveTo s1 u i m q)) (h2.trans (Sub.moveTo s2 u j m q')) ?_
                cases g with
                | true => exact Rel.moveTo h hi hq (ne_of_beq e2) f1
                | false => exact Rel.moveTo h hj hq' (ne_of_beq e3) f2
              · exact align_ok h1 h2 h
      · exact align_ok h1 h2 h
    · exact align_ok h1 h2 h
theorem align_sub {s : St} : ∀ {l : List Nat} {s1 s2 : St}, Sub s s1 → Sub s s2 → Sub s (align s1 s2 l).1 ∧ Sub s (align s1 s2 l).2
  | [], s1, s2, h1, h2 => ⟨h1, h2⟩
  | u :: r, s1, s2, h1, h2 => by
    unfold align
    split
    · rename_i i j hi hj
      split
      · rename_i q q' hq hq'
        generalize hmm : 1000000 + 1000 * u + s1.q.length + s2.q.length = m
        cases e1 : Nat.beq i j with
        | true => exact align_sub h1 h2
        | false =>
          cases e2 : Nat.beq i m with
          | true => exact align_sub h1 h2
          | false =>
            cases e3 : Nat.beq j m with
            | true => exact align_sub h1 h2
            | false =>
              simp only [cond_false]
              split
              · exact align_sub (h1.trans (Sub.moveTo s1 u i m q)) (h2.trans (Sub.moveTo s2 u j m q'))
              · exact align_sub h1 h2
      · exact align_sub h1 h2
    · exact align_sub h1 h2

theorem Rel.merge {E : Env} {B : World} {N : Nm} {s s1 s2 : St} {a : Act} {R : World} (h1 : Sub s s1) (h2 : Sub s s2) {g : Bool} (h : RelE E B N (bif g then s1 else s2) a R) : ∃ N', RelE E B N' (mergeS g s s1 s2) a R := by
  obtain ⟨g1, g2, N', g3⟩ := align_ok (l := keys (s1.t.take (s1.t.length - s.t.length)) ++ keys (s2.t.take (s2.t.length - s.t.length))) h1 h2 h
  exact ⟨N', Rel.merge0 g1 g2 g3⟩

theorem length_zip : ∀ {A B T : Slots}, LeT A T → LeT B T → LeT (zipDead A B) T
  | [], [], [], _, _ => trivial
  | (k, x) :: r, (k', y) :: r', (k'', w) :: r'', ⟨h1, h2, h3⟩, ⟨_, g2, g3⟩ => by
    refine ⟨h1, ?_, length_zip h3 g3⟩
    rcases h2 with rfl | rfl
    · cases x <;> first | exact .inr rfl | (cases y <;> first | exact .inl rfl | exact .inr rfl)
    · exact .inr rfl
  | [], [], _ :: _, h, _ => h.elim
  | [], _ :: _, [], _, h => h.elim
  | _ :: _, [], [], h, _ => h.elim
  | [], _ :: _, _ :: _, h, _ => h.elim
  | _ :: _, [], _ :: _, _, h => h.elim
  | (_, _) :: _, (_, _) :: _, [], h, _ => h.elim
theorem zipL_le : ∀ {A B T : List LV}, LeL A T → LeL B T → LeL (zipL A B) T
  | [], [], [], _, _ => trivial
  | x :: r, y :: r', w :: r'', ⟨h2, h3⟩, ⟨_, g3⟩ => by
    refine ⟨?_, zipL_le h3 g3⟩
    rcases h2 with rfl | rfl
    · cases x <;> first | exact .inr rfl | (cases y <;> first | exact .inl rfl | exact .inr rfl)
    · exact .inr rfl
  | [], [], _ :: _, h, _ => h.elim
  | [], _ :: _, [], _, h => h.elim
  | _ :: _, _, [], h, _ => h.elim
  | [], _ :: _, _ :: _, h, _ => h.elim
  | _ :: _, [], _ :: _, _, h => h.elim
theorem zipBs_le : ∀ {A B T : Boxes}, LeB A T → LeB B T → LeB (zipBs A B) T
  | [], [], [], _, _ => trivial
  | (k, none) :: r, (k', y) :: r', (k'', w) :: r'', ⟨h1, _, h3⟩, ⟨_, _, g3⟩ => ⟨h1, .inl rfl, zipBs_le h3 g3⟩
  | (k, some (e, cs)) :: r, (k', none) :: r', (k'', w) :: r'', ⟨h1, _, h3⟩, ⟨_, _, g3⟩ => ⟨h1, .inl rfl, zipBs_le h3 g3⟩
  | (k, some (e, cs)) :: r, (k', some (e', ds)) :: r', (k'', w) :: r'', ⟨h1, h2, h3⟩, ⟨_, g2, g3⟩ => ⟨h1, by
      rcases h2 with h2 | ⟨e1, c1, d1, a1, a2, a3⟩
      · cases h2
      · rcases g2 with g2 | ⟨e2, c2, d2, b1, b2, b3⟩
        · cases g2
        · cases a1
          cases b1
          rw [a2] at b2
          cases b2
          exact .inr ⟨e, zipL cs ds, d1, rfl, a2, zipL_le a3 b3⟩, zipBs_le h3 g3⟩
  | [], [], _ :: _, h, _ => h.elim
  | [], _ :: _, [], _, h => h.elim
  | _ :: _, [], [], h, _ => h.elim
  | [], _ :: _, _ :: _, h, _ => h.elim
  | _ :: _, [], _ :: _, _, h => h.elim
  | (_, _) :: _, (_, _) :: _, [], h, _ => h.elim
theorem Sub.merge {s s1 s2 : St} (h1 : Sub s s1) (h2 : Sub s s2) (g : Bool) : Sub s (mergeS g s s1 s2) := by
  obtain ⟨g1, g2⟩ := align_sub (l := keys (s1.t.take (s1.t.length - s.t.length)) ++ keys (s2.t.take (s2.t.length - s.t.length))) h1 h2
  unfold mergeS
  unfold aligned
  generalize (align s1 s2 (keys (s1.t.take (s1.t.length - s.t.length)) ++ keys (s2.t.take (s2.t.length - s.t.length)))).1 = x1 at *
  generalize (align s1 s2 (keys (s1.t.take (s1.t.length - s.t.length)) ++ keys (s2.t.take (s2.t.length - s.t.length)))).2 = x2 at *
  have hq : x1.q.drop (x1.q.length - s.q.length) = s.q := by
    obtain ⟨d1, e1⟩ := g1.seq
    rw [e1, List.length_append, Nat.add_sub_cancel, List.drop_left']; rfl
  have := Sub.mk' (s := s) (dt := mergeKeys g x1.t x2.t (keys (x1.t.take (x1.t.length - s.t.length)) ++ keys (x2.t.take (x2.t.length - s.t.length)))) (db := mergeBs g x1.b x2.b (keysB (x1.b.take (x1.b.length - s.b.length)) ++ keysB (x2.b.take (x2.b.length - s.b.length))))
    (dq := mergeQs g x1.q x2.q (keysQ (x1.q.take (x1.q.length - s.q.length)) ++ keysQ (x2.q.take (x2.q.length - s.q.length)))) (length_zip g1.le g2.le) (zipBs_le g1.leb g2.leb)
  unfold merge0
  unfold mergeT mergeB mergeQ
  rw [hq, g1.n]
  exact this
end Go.Proofs.Yteebobbhhgmeiaa
