/- A symbolic run over typed data, part E: values built, taken apart, compared, converted; calls that hand back a plain value. -/
import Derived.Test.YteebobbhhgmeiaaTD
import Derived.Laws.Tables
import Derived.Laws.Pointers
import Derived.Great.BuildSlice
namespace Go.Proofs.Yteebobbhhgmeiaa
open Go.RowKit

/-! ### cells of a value -/
def cellsA : A → Option (List A)
  | .v x => some (toL x.cells.toList)
  | .agg xs => some xs
  | .tup _ => none
  | .opt _ _ _ => none
  | .dead => none
  | .it _ _ => none
  | x => some [x]
def oneA : List A → Bool
  | [] => true
  | .v x :: r => bif x.oneCell' then oneA r else false
  | .agg _ :: _ => false
  | .tup _ :: _ => false
  | .opt _ _ _ :: _ => false
  | .dead :: _ => false
  | .it _ _ :: _ => false
  | _ :: r => oneA r
section
variable {F : Nat → Prop} {N : Nm} {nx : Nat} {R : World}
/-- A value that lies in one cell. -/
theorem one_of {x : A} {y : Value} (h : Hv F N nx R x y) (hx : cellsA x = some [x] ∨ ∃ v, x = .v v ∧ v.oneCell' = true) (ho : oneA [x] = true) (hq : ∀ i, x = .sq i → ∃ a n c, N.q i = .slice a n c) : y.oneCell' = true := by
  cases x with
  | v u => rw [h.v_inv]; cases hu : u.oneCell' with
    | true => rfl
    | false => simp [oneA, hu] at ho
  | sl c l => obtain ⟨a, c, rfl, _⟩ := h.sl_inv; rfl
  | own i o => rw [h.own_inv.2]; rfl
  | ownx i b l k => rw [h.ownx_inv.2]; rfl
  | sq i => obtain ⟨a, n, c, e⟩ := hq i rfl; rw [h.sq_inv.2, e]; rfl
  | vw i s l n f => obtain ⟨_, a, c, rfl, _⟩ := h.vw_inv; rfl
  | el i k s o => rw [h.el_inv.2]; rfl
  | ref l => obtain ⟨ad, rfl, _⟩ := h.ref_inv; rfl
  | mp i => rw [h.mp_inv.2]; rfl
  | nl => obtain ⟨a, rfl⟩ := h.nl_inv; rfl
  | it q vs => simp [oneA] at ho
  | fn f a b => obtain ⟨vs, us, rfl, _⟩ := h.fn_inv; rfl
  | agg xs => simp [oneA] at ho
  | tup xs => simp [oneA] at ho
  | opt u b x => simp [oneA] at ho
  | dead => simp [oneA] at ho
end
/-- The own rows that are named are there. -/
def sqOk (o : Objs) : List A → Bool
  | [] => true
  | .sq i :: r => match lookO i o with
    | some (.arr _ _ _) => sqOk o r
    | _ => false
  | _ :: r => sqOk o r
section
variable {F : Nat → Prop} {N : Nm} {nx : Nat} {o : Objs} {R : World}
theorem sq_val (h : HRel F N nx o R) {i : Nat} (hi : sqOk o [.sq i] = true) : ∃ a n c, N.q i = .slice a n c := by
  unfold sqOk at hi
  have form : ∀ {e sz n} {zs : List Value}, OwnR R e sz (N.q i) n zs → ∃ a n c, N.q i = .slice a n c := fun h1 => by
    obtain ⟨a, c, e1, _⟩ := h1.form
    exact ⟨a, _, c, e1⟩
  split at hi
  · rename_i hl
    obtain ⟨_, zs, h1, _⟩ := h.ob i _ hl
    exact form h1
  · cases hi
theorem one_list (h : HRel F N nx o R) : ∀ {xs : List A} {vs : List Value}, oneA xs = true → sqOk o xs = true → HL F N nx R xs vs → ∀ c ∈ vs, c.oneCell' = true
  | [], _, _, _, hl, c, hc => by rw [hl.inv0] at hc; cases hc
  | x :: r, _, h1, h2, hl, c, hc => by
    obtain ⟨v, vs, rfl, h3, h4⟩ := hl.inv
    have hx : oneA [x] = true ∧ oneA r = true := by
      cases x <;> simp only [oneA] at h1 ⊢ <;> first | (cases h1; done) | (exact ⟨trivial, h1⟩) | skip
      rename_i u
      cases hu : u.oneCell' with
      | true => rw [hu] at h1; exact ⟨rfl, h1⟩
      | false => rw [hu] at h1; cases h1
    have hs : (∀ i, x = .sq i → sqOk o [.sq i] = true) ∧ sqOk o r = true := by
      cases x <;> simp only [sqOk] at h2 ⊢ <;> first | (exact ⟨(fun i e => by cases e), h2⟩) | skip
      rename_i i
      split at h2
      · rename_i hl'; exact ⟨fun j e => by cases e; simp only [hl'], h2⟩
      · cases h2
    rcases List.mem_cons.1 hc with rfl | hc
    · refine one_of h3 ?_ hx.1 fun i e => sq_val h (hs.1 i e)
      cases x <;> first | (exact .inl rfl) | (simp [oneA] at hx; done) | skip
      rename_i u
      refine .inr ⟨u, rfl, ?_⟩
      have := hx.1
      simp only [oneA] at this
      cases hu : u.oneCell' with
      | true => rfl
      | false => rw [hu] at this; cases this
    · exact one_list h hx.2 hs.2 h4 c hc
theorem cellsA_ok (h : HRel F N nx o R) {x : A} {us : List A} {y : Value} (hc : cellsA x = some us) (hs : sqOk o us = true) (hx : Hv F N nx R x y) : HL F N nx R us y.cells.toList := by
  have one : y.cells.toList = [y] → us = [x] → HL F N nx R us y.cells.toList := fun e1 e2 => by rw [e1, e2]; exact HL.cons hx HL.nil
  cases x with
  | v u => cases hc; rw [hx.v_inv]; exact HL.toL _
  | agg xs => cases hc; obtain ⟨vs, rfl, h2⟩ := hx.agg_inv; simpa [Value.cells] using h2
  | tup xs => cases hc
  | opt u b x => cases hc
  | dead => cases hc
  | sl c l => cases hc; refine one ?_ rfl; obtain ⟨a, c, rfl, _⟩ := hx.sl_inv; rfl
  | own i o => cases hc; refine one ?_ rfl; rw [hx.own_inv.2]; rfl
  | ownx i b l k => cases hc; refine one ?_ rfl; rw [hx.ownx_inv.2]; rfl
  | sq i =>
    cases hc
    obtain ⟨a, n, c, e⟩ := sq_val h hs
    refine one ?_ rfl
    rw [hx.sq_inv.2, e]
    rfl
  | vw i s l n f => cases hc; refine one ?_ rfl; obtain ⟨_, a, c, rfl, _⟩ := hx.vw_inv; rfl
  | el i k s o => cases hc; refine one ?_ rfl; rw [hx.el_inv.2]; rfl
  | ref l => cases hc; refine one ?_ rfl; obtain ⟨ad, rfl, _⟩ := hx.ref_inv; rfl
  | mp i => cases hc; refine one ?_ rfl; rw [hx.mp_inv.2]; rfl
  | nl => cases hc; refine one ?_ rfl; obtain ⟨a, rfl⟩ := hx.nl_inv; rfl
  | it q vs => cases hc
  | fn f a b => cases hc; refine one ?_ rfl; obtain ⟨vs, us, rfl, _⟩ := hx.fn_inv; rfl
end

/-! ### parts put in their places -/
def putL (off : Nat) (us cs : List A) : List A := cs.take off ++ us ++ cs.drop (off + us.length)
def fillA (place : Nat → Option (Nat × Nat)) : List A → List (Nat × List A) → Option (List A)
  | cs, [] => some cs
  | cs, (i, us) :: r => match place i with
    | some (off, size) => bif Nat.beq us.length size then (bif Nat.ble (off + size) cs.length then fillA place (putL off us cs) r else none) else none
    | none => none
theorem fold_set : ∀ (l : List Value) (off k : Nat) (cs : Array Value), off + k + l.length ≤ cs.size →
    ((l.zipIdx k).foldl (fun (cs : Array Value) (p : Value × Nat) => cs.setIfInBounds (off + p.2) p.1) cs).toList = cs.toList.take (off + k) ++ l ++ cs.toList.drop (off + k + l.length)
  | [], off, k, cs, h => by simp
  | x :: r, off, k, cs, h => by
    rw [List.length_cons] at h
    rw [List.zipIdx_cons, List.foldl_cons, fold_set r off (k + 1) _ (by simp; omega)]
    have hlt : off + k < cs.toList.length := by simp; omega
    simp only [Array.toList_setIfInBounds]
    rw [List.take_set, List.drop_set]
    rw [show off + (k + 1) = off + k + 1 by omega]
    rw [if_pos (by omega)]
    have h1 : (cs.toList.take (off + k + 1)).set (off + k) x = cs.toList.take (off + k) ++ [x] := by
      rw [List.take_succ_eq_append_getElem hlt, List.set_append]
      have : (cs.toList.take (off + k)).length = off + k := by rw [List.length_take]; omega
      rw [if_neg (by omega), this, Nat.sub_self]
      rfl
    rw [h1, List.length_cons]
    rw [show off + k + 1 + r.length = off + k + (r.length + 1) by omega]
    simp
theorem HL.put {F : Nat → Prop} {N : Nm} {nx : Nat} {R : World} {off : Nat} {us cs : List A} {vs ws : List Value} (h1 : HL F N nx R us vs) (h2 : HL F N nx R cs ws) : HL F N nx R (putL off us cs) (ws.take off ++ vs ++ ws.drop (off + vs.length)) := by
  unfold putL
  rw [h1.length]
  exact ((h2.take off).append h1).append (h2.drop _)
def PartsR (F : Nat → Prop) (N : Nm) (nx : Nat) (R : World) : List (Nat × List A) → List (Nat × Value) → Prop
  | [], l => l = []
  | (i, us) :: r, l => ∃ v t, l = (i, v) :: t ∧ HL F N nx R us v.cells.toList ∧ PartsR F N nx R r t
theorem fillA_ok {F : Nat → Prop} {N : Nm} {nx : Nat} {R : World} {place : Nat → Option (Nat × Nat)} : ∀ {ps : List (Nat × List A)} {qs : List (Nat × Value)} {cs cs' : List A} {arr : Array Value}, fillA place cs ps = some cs' → PartsR F N nx R ps qs → HL F N nx R cs arr.toList →
    ∃ arr', Instr.fill place arr qs = some arr' ∧ HL F N nx R cs' arr'.toList
  | [], _, cs, cs', arr, h, hp, hc => by
    have hp' : _ = [] := hp
    subst hp'
    cases h
    exact ⟨arr, rfl, hc⟩
  | (i, us) :: r, _, cs, cs', arr, h, hp, hc => by
    obtain ⟨v, t, rfl, h1, h2⟩ := hp
    unfold fillA at h
    split at h <;> first | (cases h; done) | skip
    rename_i off size hpl
    cases hb : Nat.beq us.length size with
    | false => rw [hb] at h; cases h
    | true =>
      cases hb2 : Nat.ble (off + size) cs.length with
      | false => rw [hb, hb2] at h; cases h
      | true =>
        rw [hb, hb2] at h
        simp only [cond_true] at h
        obtain rfl := Nat.eq_of_beq_eq_true hb
        have hle := Nat.le_of_ble_eq_true hb2
        have l1 : v.cells.size = us.length := by have := h1.length; simpa using this
        have l2 : arr.size = cs.length := by have := hc.length; simpa using this
        have hput := HL.put (off := off) h1 hc
        have hfold := fold_set v.cells.toList off 0 arr (by rw [Array.length_toList]; omega)
        have e1 : (v.cells.zipIdx.foldl (fun cs (c, j) => cs.setIfInBounds (off + j) c) arr).toList = arr.toList.take off ++ v.cells.toList ++ arr.toList.drop (off + v.cells.toList.length) := by
          rw [← Array.foldl_toList, Array.toList_zipIdx]
          exact hfold
        rw [← e1] at hput
        obtain ⟨arr', g1, g2⟩ := fillA_ok h h2 hput
        refine ⟨arr', ?_, g2⟩
        unfold Instr.fill
        simp only [hpl]
        rw [if_neg (by simp [l1]; omega)]
        exact g1

def partsE (s : St) (G : Guards) : List (Nat × Operand) → Option (List (Nat × List A))
  | [] => some []
  | (i, o) :: r => match s.ev G o with
    | some x => match cellsA x with
      | some us => bif sqOk s.o us then (match partsE s G r with
        | some l => some ((i, us) :: l)
        | none => none) else none
      | none => none
    | none => none
def placesP (P : Program) (t : TypeId) : Option (List A × (Nat → Option (Nat × Nat))) := match P.info? t, P.underlying t with
  | some it, some (.array _ e) => match it.zero, P.info? e with
    | some z, some ie => some (toL z.cells.toList, fun i => some (i * ie.size, ie.size))
    | _, _ => none
  | some it, some (.struct fields) => match it.zero, fields.toList.mapM (fun f => (P.info? f.type).map fun i => (f.offset, i.size)) with
    | some z, some places => some (toL z.cells.toList, (places.toArray[·]?))
    | _, _ => none
  | _, _ => none
def buildE (E : Env) (s : St) (G : Guards) (t : TypeId) (parts : List (Nat × Operand)) : R2 := match partsE s G parts with
  | some ps => match placesP E.P t with
    | some (z, pl) => match fillA pl z ps with
      | some cs => some (aggA cs, [])
      | none => none
    | none => none
  | none => none

section
variable {E : Env} {Z : Base} {F : Nat → Prop} {N : Nm} {s : St} {a : Act} {R : World} {G : Guards}
theorem partsE_ok (h : Rel Z F N s a R) (hG : GOk (tmOf a) G) : ∀ {l : List (Nat × Operand)} {ps : List (Nat × List A)}, partsE s G l = some ps → PartsR F N s.nx R ps (l.map fun (i, x) => (i, a.eval x))
  | [], ps, he => by cases he; rfl
  | (i, o) :: r, ps, he => by
    unfold partsE at he
    split at he <;> first | (cases he; done) | skip
    rename_i x hx
    split at he <;> first | (cases he; done) | skip
    rename_i us hus
    cases hs : sqOk s.o us with
    | false => rw [hs] at he; cases he
    | true =>
      rw [hs] at he
      simp only [cond_true] at he
      split at he <;> first | (cases he; done) | skip
      rename_i l' hl
      cases he
      exact ⟨_, _, rfl, cellsA_ok h.hp hus hs (ev_ok h hG hx).2, partsE_ok h hG hl⟩
theorem build_ok (h : Rel Z F N s a R) (hG : GOk (tmOf a) G) {t : TypeId} {parts : Array (Nat × Operand)} {z : A} {ps : List Prop} (he : buildE E s G t parts.toList = some (z, ps)) :
    ∃ y, Hv F N s.nx R z y ∧ ∀ R', (Instr.build t (parts.map fun (i, x) => (i, a.eval x))).run E.P R' = .ok y R' := by
  unfold buildE at he
  split at he <;> first | (cases he; done) | skip
  rename_i ps' hps
  split at he <;> first | (cases he; done) | skip
  rename_i zz pl hpl
  split at he <;> first | (cases he; done) | skip
  rename_i cs hcs
  cases he
  have hparts := partsE_ok h hG hps
  have hex : ∃ arr' : Array Value, E.P.built t (parts.map fun (i, x) => (i, a.eval x)).toList = some arr' ∧ HL F N s.nx R cs arr'.toList := by
    have hl : (parts.map fun (i, x) => (i, a.eval x)).toList = parts.toList.map fun (i, x) => (i, a.eval x) := by simp
    rw [hl]
    unfold placesP at hpl
    unfold Program.built
    split at hpl
    · rename_i it _ e hi hu
      rw [hi, hu]
      simp only
      split at hpl <;> first | (cases hpl; done) | skip
      rename_i z0 ie hz hie
      cases hpl
      rw [hz, hie]
      exact fillA_ok hcs hparts (HL.toL _)
    · rename_i it fields hi hu
      rw [hi, hu]
      simp only
      split at hpl <;> first | (cases hpl; done) | skip
      rename_i z0 places hz hpp
      cases hpl
      rw [hz, hpp]
      exact fillA_ok hcs hparts (HL.toL _)
    · cases hpl
  obtain ⟨arr', h1, h2⟩ := hex
  refine ⟨.agg arr', ?_, fun R' => run_build R' t _ _ h1⟩
  have := aggA_ok h2
  rwa [Array.toArray_toList] at this
end
end Go.Proofs.Yteebobbhhgmeiaa
