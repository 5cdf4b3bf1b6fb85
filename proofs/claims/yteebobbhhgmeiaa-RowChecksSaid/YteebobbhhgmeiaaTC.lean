/- A symbolic run over typed data, part C: addresses, what is read; operations that leave the world alone. -/
import Derived.Test.YteebobbhhgmeiaaTB
import Derived.Lib.AppendStr
import Derived.Laws.BytesArg
namespace Go.Proofs.Yteebobbhhgmeiaa
open Go.RowKit

def sizeP (P : Program) (t : TypeId) : Option Nat := (P.info? t).map (·.size)
def rowP (P : Program) (t : TypeId) : Option Bool := (P.underlying t).map fun d => match d with | .struct _ | .array _ _ => true | _ => false

section runs
variable {P : Program} {R : World}
theorem run_fieldAt {t : TypeId} {x : Value} {f : Nat} {fs : Array Field} {fd : Field} {n : Nat} {ad : Addr} (ht : P.underlying t = some (.struct fs)) (hf : fs[f]? = some fd) (hn : sizeP P fd.type = some n) (h0 : n ≠ 0) (hx : x = .pointer (some ad)) :
    (Instr.fieldAt t x f).run P R = .ok (.pointer (some (ad.add fd.offset))) R := by
  subst hx
  unfold sizeP at hn
  cases hi : P.info? fd.type with
  | none => rw [hi] at hn; cases hn
  | some i =>
    rw [hi] at hn
    obtain rfl : i.size = n := Option.some.inj hn
    simp [Instr.fieldAt, run_underlying ht, hf, Instr.sureAddr, fieldPlace, sizeOf, typeInfo, hi, h0]

theorem run_indexAt_arr {t e : TypeId} {x : Value} {k : IntKind} {i : Int} {len n : Nat} {ad : Addr} (ht : P.underlying t = some (.array len e)) (hn : sizeP P e = some n) (hx : x = .pointer (some ad)) (h0 : 0 ≤ i) (h1 : i < len) :
    (Instr.indexAt t x (.int k i)).run P R = .ok (.pointer (some (ad.add (i.toNat * n)))) R := by
  subst hx
  unfold sizeP at hn
  cases hi : P.info? e with
  | none => rw [hi] at hn; cases hn
  | some d =>
    rw [hi] at hn
    obtain rfl : d.size = n := Option.some.inj hn
    simp [Instr.indexAt, run_underlying ht, Instr.sureAddr, sizeOf, typeInfo, hi, h0, h1, asIntOf]
theorem run_indexAt_sl {t e : TypeId} {x : Value} {k : IntKind} {i : Int} {len cap n : Nat} {ad : Addr} (ht : P.underlying t = some (.slice e)) (hn : sizeP P e = some n) (hx : x = .slice (some ad) len cap) (h0 : 0 ≤ i) (h1 : i < len) :
    (Instr.indexAt t x (.int k i)).run P R = .ok (.pointer (some (ad.add (i.toNat * n)))) R := by
  subst hx
  unfold sizeP at hn
  cases hi : P.info? e with
  | none => rw [hi] at hn; cases hn
  | some d =>
    rw [hi] at hn
    obtain rfl : d.size = n := Option.some.inj hn
    simp [Instr.indexAt, run_underlying ht, sizeOf, typeInfo, hi, h0, h1, asIntOf]

theorem run_loadVar_one {t : TypeId} {ad : Addr} {v : Value} (hr : rowP P t = some false) (hc : R.cell? ad = some v) : (loadVar t ad).run P R = .ok v R := by
  unfold rowP at hr
  cases hu : P.underlying t with
  | none => rw [hu] at hr; cases hr
  | some d =>
    rw [hu] at hr
    have hl : (load ad).run P R = .ok v R := by simp [hc]
    cases d <;> first | (simp [loadVar, isAgg, run_underlying hu, hc]; done) | (simp at hr; done)
theorem run_loadVar_agg {t : TypeId} {ad : Addr} {cs : List Value} (hr : rowP P t = some true) (hs : sizeP P t = some cs.length) (hc : ∀ j v, cs[j]? = some v → R.cell? (ad.add j) = some v) : (loadVar t ad).run P R = .ok (.agg cs.toArray) R := by
  have hl := run_loadCells_list (P := P) R ad cs hc
  unfold rowP at hr
  unfold sizeP at hs
  cases hu : P.underlying t with
  | none => rw [hu] at hr; cases hr
  | some d =>
    rw [hu] at hr
    cases hi : P.info? t with
    | none => rw [hi] at hs; cases hs
    | some i =>
      rw [hi] at hs
      have hs' : i.size = cs.length := Option.some.inj hs
      cases d <;> first | (simp [loadVar, isAgg, run_underlying hu, sizeOf, typeInfo, hi, hs', hl]; done) | (simp at hr; done)
theorem run_loadAt {t : TypeId} {x : Value} {ad : Addr} (hx : x = .pointer (some ad)) : (Instr.loadAt t x).run P R = (loadVar t ad).run P R := by
  subst hx
  simp [Instr.loadAt, Instr.sureAddr]
theorem run_storeAt {t : TypeId} {x v : Value} {b o : Nat} {e : TypeId} {cs : List Value} (hx : x = .pointer (some ⟨b, o, none⟩)) (hb : R.heap[b]? = some (.cells cs.toArray e (0, 0))) (hs : sizeP P t = some v.cells.toList.length)
    (hl : o + v.cells.toList.length ≤ cs.length) (h1 : ∀ c ∈ v.cells.toList, c.oneCell' = true) :
    (Instr.storeAt t x v).run P R = .ok () (R.setRow b (cs.take o ++ v.cells.toList ++ cs.drop (o + v.cells.toList.length)).toArray) := by
  subst hx
  have h := run_storeCells_at (P := P) b o e v.cells.toList 0 cs.toArray R hb (by simpa using hl) h1
  unfold sizeP at hs
  cases hi : P.info? t with
  | none => rw [hi] at hs; cases hs
  | some i =>
    rw [hi] at hs
    have hs' : i.size = v.cells.size := by have := Option.some.inj hs; simpa using this
    simp only [Instr.storeAt, Instr.sureAddr, Sem.run_bind, Sem.run_pure, Result.andThen_ok]
    simp only [Nat.add_zero] at h
    simp [storeVar, sizeOf, typeInfo, hi, hs', h]
theorem run_allocAt {e : TypeId} {z : Value} (hz : (P.info? e).bind (·.zero) = some z) : (Instr.alloc e true (.tuple #[])).run P R = .ok (.pointer (some ⟨R.heap.size, 0, none⟩)) (R.alloc (.cells z.cells.toList.toArray e (0, 0))) := by
  cases hi : P.info? e with
  | none => rw [hi] at hz; cases hz
  | some i =>
    rw [hi] at hz
    have hz' : i.zero = some z := hz
    simp [Instr.alloc, zeroValue, typeInfo, hi, hz', newVar, newRow]
theorem run_boxAt {e : TypeId} {v : Value} : (Instr.box e v).run P R = .ok (.pointer (some ⟨R.heap.size, 0, none⟩)) (R.alloc (.cells v.cells.toList.toArray e (0, 0))) := by
  simp [Instr.box, newVar, newRow]
end runs

/-- The part at a place that is reckoned. -/
def selA (k : Nat) : Nat → List A → A
  | _, [] => .dead
  | _, [x] => x
  | j, x :: y :: r => mergeT (Nat.beq k j) x (selA k (j + 1) (y :: r))
def setA (k : Nat) (v : A) : Nat → List A → List A
  | _, [] => []
  | j, x :: r => mergeT (Nat.beq k j) v x :: setA k v (j + 1) r
section
variable {F : Nat → Prop} {N : Nm} {nx : Nat} {R : World}
theorem selA_ok {k : Nat} : ∀ {l : List A} {vs : List Value} {j : Nat} {v : Value}, HL F N nx R l vs → j ≤ k → k < j + l.length → vs[k - j]? = some v → Hv F N nx R (selA k j l) v
  | [], _, _, _, _, _, h, _ => by simp at h; omega
  | [x], _, j, v, h, h1, h2, hv => by
    obtain ⟨u, us, rfl, h3, _⟩ := h.inv
    have : k - j = 0 := by simp at h2; omega
    rw [this] at hv
    cases hv
    exact h3
  | x :: y :: r, _, j, v, h, h1, h2, hv => by
    obtain ⟨u, us, rfl, h3, h4⟩ := h.inv
    unfold selA
    refine mergeT_ok ?_
    by_cases hk : k = j
    · subst hk
      rw [beq_self]
      rw [Nat.sub_self] at hv
      cases hv
      exact h3
    · rw [beq_ne hk]
      refine selA_ok h4 (by omega) (by simp at h2 ⊢; omega) ?_
      rw [show k - j = (k - (j + 1)) + 1 by omega, List.getElem?_cons_succ] at hv
      exact hv
theorem setA_past {k : Nat} {v : A} : ∀ {l : List A} {vs : List Value} {j : Nat}, HL F N nx R l vs → k < j → HL F N nx R (setA k v j l) vs
  | [], _, _, h, _ => h
  | x :: r, _, j, h, hk => by
    obtain ⟨u, us, rfl, h3, h4⟩ := h.inv
    unfold setA
    refine HL.cons (mergeT_ok ?_) (setA_past h4 (by omega))
    rw [beq_ne (by omega)]
    exact h3
theorem setA_ok {k : Nat} {v : A} {y : Value} (hy : Hv F N nx R v y) : ∀ {l : List A} {vs : List Value} {j : Nat}, HL F N nx R l vs → j ≤ k → k < j + l.length → HL F N nx R (setA k v j l) (vs.take (k - j) ++ [y] ++ vs.drop (k - j + 1))
  | [], _, _, _, _, h => by simp at h; omega
  | x :: r, _, j, h, hk, h2 => by
    obtain ⟨u, us, rfl, h3, h4⟩ := h.inv
    unfold setA
    by_cases hkj : k = j
    · subst hkj
      rw [Nat.sub_self, beq_self]
      exact HL.cons (mergeT_ok hy) (setA_past h4 (by omega))
    · rw [beq_ne hkj, show k - j = (k - (j + 1)) + 1 by omega]
      exact HL.cons (mergeT_ok h3) (setA_ok hy h4 (by omega) (by simp at h2; omega))
end

abbrev R2 := Option (A × List Prop)
/-- What must hold: reckoned at once, or kept. -/
def ndB (lit : Bool) (p : Prop) [Decidable p] : Option (List Prop) := bif lit then (bif decide p then some [] else none) else some [p]
theorem ndB_ok {lit : Bool} {p : Prop} [Decidable p] {ps : List Prop} (h : ndB lit p = some ps) (hp : ∀ q ∈ ps, q) : p := by
  unfold ndB at h
  cases lit with
  | true =>
    cases hd : decide p with
    | true => exact of_decide_eq_true hd
    | false => rw [hd] at h; cases h
  | false => cases h; exact hp p (List.mem_singleton.2 rfl)
def wth (x : A) : Option (List Prop) → R2
  | some ps => some (x, ps)
  | none => none
theorem wth_some {x z : A} {o : Option (List Prop)} {ps : List Prop} (h : wth x o = some (z, ps)) : x = z ∧ o = some ps := by
  cases o with
  | none => cases h
  | some qs => cases h; exact ⟨rfl, rfl⟩

def fieldE (E : Env) (s : St) (G : Guards) (t : TypeId) (x : Operand) (f : Nat) : R2 :=
  match E.P.underlying t with
  | some (.struct fs) => match fs[f]? with
    | some fd => match sizeP E.P fd.type with
      | some n => bif Nat.beq n 0 then none else match s.ev G x with
        | some (.own i off) => some (.own i (off + fd.offset), [])
        | some (.el i k sz off) => some (.el i k sz (off + fd.offset), [])
        | some (.ref l) => some (.ref (l.drop fd.offset), [])
        | _ => none
      | none => none
    | none => none
  | _ => none

def isConst : Operand → Bool
  | .const _ => true
  | _ => false
def byteAt (l : List UInt8) (k : Nat) : Value := byteV (l.getD k 0)
def elsN (o : Objs) (i sz : Nat) : Option Nat := match lookO i o with
  | some (.arr _ size els) => bif Nat.beq size sz then some els.n else none
  | _ => none
def indexE (E : Env) (s : St) (G : Guards) (t : TypeId) (x i : Operand) : R2 :=
  match s.raw G i with
  | some (.int _ n) => match E.P.underlying t with
    | some (.array len e) => match sizeP E.P e with
      | some sz => match s.ev G x with
        | some (.own b off) => bif E.lit || isConst i then wth (.own b (off + n.toNat * sz)) (ndB true (0 ≤ n ∧ n < (len : Int)))
            else bif Nat.beq sz 1 then some (.ownx b off len n.toNat, [0 ≤ n ∧ n < (len : Int)]) else none
        | some (.el b k z off) => wth (.el b k z (off + n.toNat * sz)) (ndB (E.lit || isConst i) (0 ≤ n ∧ n < (len : Int)))
        | some (.ref l) => wth (.ref (l.drop (n.toNat * sz))) (ndB (E.lit || isConst i) (0 ≤ n ∧ n < (len : Int)))
        | _ => none
      | none => none
    | some (.slice e) => match sizeP E.P e with
      | some sz => match s.ev G x with
        | some (.sq b) => match elsN s.o b sz with
          | some m => wth (.el b n.toNat sz 0) (ndB E.lit (0 ≤ n ∧ n < (m : Int)))
          | none => none
        | some (.vw b z lo m _) => match elsN s.o b sz with
          | some _ => bif Nat.beq z sz then wth (.el b (lo + n.toNat) sz 0) (ndB E.lit (0 ≤ n ∧ n < (m : Int))) else none
          | none => none
        | some (.sl c l) => bif Nat.beq (size c) sz then wth (.ref (enc c (l.getD n.toNat (dflt c)))) (ndB E.lit (0 ≤ n ∧ n < (l.length : Int))) else none
        | _ => none
      | none => none
    | _ => none
  | _ => none

/-- Cells read as a type has them. -/
def readL (P : Program) (t : TypeId) (l : List A) : Option A := match rowP P t with
  | some true => match sizeP P t with
    | some n => bif Nat.ble n l.length then some (aggA (l.take n)) else none
    | none => none
  | some false => match l with
    | x :: _ => some x
    | [] => none
  | none => none
def loadE (E : Env) (s : St) (G : Guards) (t : TypeId) (x : Operand) : R2 :=
  match s.ev G x with
  | some (.own i off) => match lookO i s.o with
    | some (.box _ cs) => match readL E.P t (cs.drop off) with
      | some z => some (z, [])
      | none => none
    | _ => none
  | some (.ownx i base len k) => match lookO i s.o with
    | some (.box _ cs) => match rowP E.P t with
      | some false => bif Nat.ble (base + len) cs.length then some (selA k 0 ((cs.drop base).take len), [k < len]) else none
      | _ => none
    | _ => none
  | some (.el i k sz off) => match lookO i s.o with
    | some (.arr _ size els) => bif Nat.beq size sz then (match readL E.P t ((els.nth k).drop off) with
      | some z => wth z (ndB E.lit (k < els.n))
      | none => none) else none
    | _ => none
  | some (.ref l) => match readL E.P t l with
    | some z => some (z, [])
    | none => none
  | _ => none

section
variable {E : Env} {Z : Base} {F : Nat → Prop} {N : Nm} {s : St} {a : Act} {R : World} {G : Guards}

theorem HC.drop {nx : Nat} (n : Nat) {l : List A} {ad : Addr} (h : HC F N nx R l ad) : HC F N nx R (l.drop n) (ad.add n) := fun j x hx => by
  rw [List.getElem?_drop] at hx
  rw [add_add]
  exact h (n + j) x hx
theorem HC.cells {nx : Nat} : ∀ {l : List A} {ad : Addr}, HC F N nx R l ad → ∃ vs, HL F N nx R l vs ∧ ∀ j v, vs[j]? = some v → R.cell? (ad.add j) = some v
  | [], _, _ => ⟨[], HL.nil, fun j v h => by cases j <;> cases h⟩
  | x :: r, ad, h => by
    obtain ⟨⟨u, h1, h2⟩, h3⟩ := HC.cons.1 h
    obtain ⟨vs, h4, h5⟩ := HC.cells h3
    refine ⟨u :: vs, HL.cons h2 h4, fun j v hj => ?_⟩
    cases j with
    | zero => cases hj; rw [add_zero]; exact h1
    | succ j =>
      have := h5 j v hj
      rw [add_add, Nat.add_comm] at this
      exact this
theorem Hv.own_inv {nx i off : Nat} {y : Value} (h : Hv F N nx R (.own i off) y) : i < nx ∧ y = .pointer (some ⟨N.b i, off, none⟩) := by
  cases h with | own h => exact ⟨h, rfl⟩
theorem Hv.ownx_inv {nx i base len k : Nat} {y : Value} (h : Hv F N nx R (.ownx i base len k) y) : i < nx ∧ y = .pointer (some ⟨N.b i, base + k, none⟩) := by
  cases h with | ownx h => exact ⟨h, rfl⟩
theorem Hv.sq_inv {nx i : Nat} {y : Value} (h : Hv F N nx R (.sq i) y) : i < nx ∧ y = N.q i := by
  cases h with | sq h => exact ⟨h, rfl⟩
theorem Hv.mp_inv {nx i : Nat} {y : Value} (h : Hv F N nx R (.mp i) y) : i < nx ∧ y = .map (some (N.b i)) := by
  cases h with | mp h => exact ⟨h, rfl⟩
theorem Hv.el_inv {nx i k size off : Nat} {y : Value} (h : Hv F N nx R (.el i k size off) y) : i < nx ∧ y = .pointer (some ((placeOf (N.q i)).add (k * size + off))) := by
  cases h with | el h => exact ⟨h, rfl⟩
theorem Hv.vw_inv {nx i size lo n : Nat} {full : Bool} {y : Value} (h : Hv F N nx R (.vw i size lo n full) y) : i < nx ∧ ∃ a cap, y = .slice a n cap ∧ n ≤ cap ∧ (full = true → cap = n) ∧ (0 < n → a = some ((placeOf (N.q i)).add (lo * size))) := by
  cases h with | vw h h1 h2 h3 => exact ⟨h, _, _, rfl, h1, h2, h3⟩

theorem field_ok (h : Rel Z F N s a R) (hG : GOk (tmOf a) G) {t : TypeId} {x : Operand} {f : Nat} {z : A} {ps : List Prop} (he : fieldE E s G t x f = some (z, ps)) :
    z.plain = true ∧ ∃ y, Hv F N s.nx R z y ∧ ∀ R', (Instr.fieldAt t (a.eval x) f).run E.P R' = .ok y R' := by
  unfold fieldE at he
  split at he <;> first | (cases he; done) | skip
  rename_i fs hu
  split at he <;> first | (cases he; done) | skip
  rename_i fd hf
  split at he <;> first | (cases he; done) | skip
  rename_i n hn
  cases h0 : Nat.beq n 0 with
  | true => rw [h0] at he; cases he
  | false =>
    rw [h0] at he
    simp only [cond_false] at he
    have hn0 : n ≠ 0 := fun e => by subst e; simp at h0
    split at he <;> first | (cases he; done) | skip
    · rename_i i off hx
      have hx' := (ev_ok h hG hx).2.own_inv
      cases he
      exact ⟨rfl, _, .own hx'.1, fun R' => by rw [run_fieldAt hu hf hn hn0 hx'.2, add_mk]⟩
    · rename_i i k sz off hx
      have hx' := (ev_ok h hG hx).2.el_inv
      cases he
      exact ⟨rfl, _, .el hx'.1, fun R' => by rw [run_fieldAt hu hf hn hn0 hx'.2, add_add, Nat.add_assoc]⟩
    · rename_i l hx
      obtain ⟨ad, h1, h2, h3⟩ := (ev_ok h hG hx).2.ref_inv
      cases he
      exact ⟨rfl, _, Hv.of_ref (by rw [add_block]; exact h2) (h3.drop _), fun R' => run_fieldAt hu hf hn hn0 h1⟩

theorem row_place {e : TypeId} {size n : Nat} {v : Value} {zs : List Value} (h : OwnR R e size v n zs) (hn : 0 < n) : ∃ g c, v = .slice (some ⟨g, 0, none⟩) n c ∧ n ≤ c ∧ placeOf v = ⟨g, 0, none⟩ ∧ blkOf v = some g ∧ ∀ j u, zs[j]? = some u → R.cell? ⟨g, j, none⟩ = some u := by
  rcases h.2 with ⟨_, _, h0⟩ | ⟨g, cap, cur, h1, h3, h4, _, h6, h7⟩
  · omega
  · refine ⟨g, cap + 1, h1, h4, by rw [h1]; rfl, by rw [h1]; rfl, fun j u hu => ?_⟩
    rw [blk_cell h3]
    rw [← h7] at hu
    rw [List.getElem?_take] at hu
    split at hu <;> first | (cases hu; done) | skip
    rwa [Array.getElem?_toList] at hu

/-- An own row as it is named. -/
theorem els_row (h : HRel F N s.nx s.o R) {i sz m : Nat} (he : elsN s.o i sz = some m) : i < s.nx ∧ ∃ e zs, OwnR R e sz (N.q i) m zs := by
  unfold elsN at he
  split at he <;> first | (cases he; done) | skip
  rename_i e size els hl
  obtain ⟨h1, h2⟩ := h.ob i _ hl
  cases hb : Nat.beq size sz with
  | false => rw [hb] at he; cases he
  | true =>
    rw [hb] at he
    cases he
    obtain rfl := Nat.eq_of_beq_eq_true hb
    obtain ⟨zs, h3, _⟩ := h2
    exact ⟨h1, e, zs, h3⟩

theorem index_ok (h : Rel Z F N s a R) (hG : GOk (tmOf a) G) {t : TypeId} {x i : Operand} {z : A} {ps : List Prop} (he : indexE E s G t x i = some (z, ps)) (hp : ∀ p ∈ ps, p) :
    z.plain = true ∧ ∃ y, Hv F N s.nx R z y ∧ ∀ R', (Instr.indexAt t (a.eval x) (a.eval i)).run E.P R' = .ok y R' := by
  unfold indexE at he
  split at he <;> first | (cases he; done) | skip
  rename_i k n hi
  rw [raw_ok h hG hi]
  split at he <;> first | (cases he; done) | skip
  · rename_i len e hu
    split at he <;> first | (cases he; done) | skip
    rename_i sz hsz
    split at he <;> first | (cases he; done) | skip
    · rename_i b off hx
      have hx' := (ev_ok h hG hx).2.own_inv
      cases hc : (E.lit || isConst i) with
      | true =>
        rw [hc] at he
        obtain ⟨rfl, hd⟩ := wth_some he
        obtain ⟨h0, h1⟩ := ndB_ok hd hp
        exact ⟨rfl, _, .own hx'.1, fun R' => by rw [run_indexAt_arr hu hsz hx'.2 h0 h1, add_mk]⟩
      | false =>
        rw [hc] at he
        simp only [cond_false] at he
        cases hb : Nat.beq sz 1 with
        | false => rw [hb] at he; cases he
        | true =>
          rw [hb] at he
          obtain rfl := Nat.eq_of_beq_eq_true hb
          cases he
          obtain ⟨h0, h1⟩ : 0 ≤ n ∧ n < (len : Int) := hp _ (by simp)
          exact ⟨rfl, _, .ownx hx'.1, fun R' => by rw [run_indexAt_arr hu hsz hx'.2 h0 h1, add_mk, Nat.mul_one]⟩
    · rename_i b kk zz off hx
      have hx' := (ev_ok h hG hx).2.el_inv
      obtain ⟨rfl, hd⟩ := wth_some he
      obtain ⟨h0, h1⟩ := ndB_ok hd hp
      exact ⟨rfl, _, .el hx'.1, fun R' => by rw [run_indexAt_arr hu hsz hx'.2 h0 h1, add_add, Nat.add_assoc]⟩
    · rename_i l hx
      obtain ⟨ad, g1, g2, g3⟩ := (ev_ok h hG hx).2.ref_inv
      obtain ⟨rfl, hd⟩ := wth_some he
      obtain ⟨h0, h1⟩ := ndB_ok hd hp
      exact ⟨rfl, _, Hv.of_ref (by rw [add_block]; exact g2) (g3.drop _), fun R' => run_indexAt_arr hu hsz g1 h0 h1⟩
  · rename_i e hu
    split at he <;> first | (cases he; done) | skip
    rename_i sz hsz
    split at he <;> first | (cases he; done) | skip
    · rename_i b hx
      have hx' := (ev_ok h hG hx).2.sq_inv
      split at he <;> first | (cases he; done) | skip
      rename_i m hm
      obtain ⟨rfl, hd⟩ := wth_some he
      obtain ⟨h0, h1⟩ := ndB_ok hd hp
      obtain ⟨g1, e', zs, g2⟩ := els_row h.hp hm
      obtain ⟨g, c, q1, q2, q3, _, _⟩ := row_place g2 (by omega)
      refine ⟨rfl, _, .el g1, fun R' => ?_⟩
      rw [run_indexAt_sl hu hsz (hx'.2.trans q1) h0 h1, q3]
      rfl
    · rename_i b zz lo m fu hx
      have hx' := (ev_ok h hG hx).2.vw_inv
      split at he <;> first | (cases he; done) | skip
      rename_i m' hm
      cases hb : Nat.beq zz sz with
      | false => rw [hb] at he; cases he
      | true =>
        rw [hb] at he
        obtain rfl := Nat.eq_of_beq_eq_true hb
        obtain ⟨rfl, hd⟩ := wth_some he
        obtain ⟨h0, h1⟩ := ndB_ok hd hp
        obtain ⟨g1, aa, c, q1, q2, _, q3⟩ := hx'
        rw [q3 (by omega)] at q1
        refine ⟨rfl, _, .el g1, fun R' => ?_⟩
        rw [run_indexAt_sl hu hsz q1 h0 h1, add_add, Nat.add_zero, Nat.add_mul]
    · rename_i c l hx
      obtain ⟨aa, cap, q1, q2, q3⟩ := (ev_ok h hG hx).2.sl_inv
      cases hb : Nat.beq (size c) sz with
      | false => rw [hb] at he; cases he
      | true =>
        rw [hb] at he
        obtain rfl := Nat.eq_of_beq_eq_true hb
        obtain ⟨rfl, hd⟩ := wth_some he
        obtain ⟨h0, h1⟩ := ndB_ok hd hp
        obtain ⟨ad, rfl, q4, q5⟩ := q3 (by omega)
        have hlt : n.toNat < l.length := by omega
        refine ⟨rfl, _, Hv.of_ref (by rw [add_block]; exact q4) (q5 n.toNat _ ?_), fun R' => run_indexAt_sl hu hsz q1 h0 h1⟩
        rw [List.getD_eq_getElem?_getD, List.getElem?_eq_getElem hlt]
        rfl

theorem readL_ok {nx : Nat} {t : TypeId} {l : List A} {z : A} {ad : Addr} {vs : List Value} (he : readL E.P t l = some z) (hl : HL F N nx R l vs) :
    ∃ y, Hv F N nx R z y ∧ ∀ R', (∀ j v, vs[j]? = some v → R'.cell? (ad.add j) = some v) → (loadVar t ad).run E.P R' = .ok y R' := by
  unfold readL at he
  split at he <;> first | (cases he; done) | skip
  · rename_i hr
    split at he <;> first | (cases he; done) | skip
    rename_i n hn
    cases hb : Nat.ble n l.length with
    | false => rw [hb] at he; cases he
    | true =>
      rw [hb] at he
      cases he
      have hle := Nat.le_of_ble_eq_true hb
      have hlen := hl.length
      refine ⟨_, aggA_ok (hl.take n), fun R' hc => run_loadVar_agg hr ?_ fun j v hv => ?_⟩
      · rw [hn, List.length_take]
        congr 1
        omega
      · rw [List.getElem?_take] at hv
        split at hv <;> first | (cases hv; done) | skip
        exact hc j v hv
  · rename_i hr
    split at he <;> first | (cases he; done) | skip
    cases he
    obtain ⟨v, us, rfl, h1, _⟩ := hl.inv
    exact ⟨v, h1, fun R' hc => run_loadVar_one hr (by have := hc 0 v rfl; rwa [add_zero] at this)⟩

theorem below_cell {R' : World} (hb : Below R.heap.size R R') {ad : Addr} {v : Value} (h : R.cell? ad = some v) : R'.cell? ad = some v := by
  have hlt : ad.block < R.heap.size := World.block_lt_of_cell? R ad h
  rw [World.cell?_of_block (hb.block _ hlt)]
  exact h
theorem slice_get {zs : List Value} {k size j : Nat} {v : Value} (h : ((zs.drop (k * size)).take size)[j]? = some v) : zs[k * size + j]? = some v := by
  rw [List.getElem?_take] at h
  split at h <;> first | (cases h; done) | skip
  rwa [List.getElem?_drop] at h

theorem load_ok (h : Rel Z F N s a R) (hG : GOk (tmOf a) G) {t : TypeId} {x : Operand} {z : A} {ps : List Prop} (he : loadE E s G t x = some (z, ps)) (hp : ∀ p ∈ ps, p) :
    ∃ y, Hv F N s.nx R z y ∧ ∀ R', Below R.heap.size R R' → (Instr.loadAt t (a.eval x)).run E.P R' = .ok y R' := by
  unfold loadE at he
  split at he <;> first | (cases he; done) | skip
  · rename_i i off hx
    have hx' := (ev_ok h hG hx).2.own_inv
    split at he <;> first | (cases he; done) | skip
    rename_i e cs hl
    split at he <;> first | (cases he; done) | skip
    rename_i z' hz
    cases he
    obtain ⟨_, vs, g1, g2⟩ := h.hp.ob i _ hl
    obtain ⟨y, q1, q2⟩ := readL_ok (ad := ⟨N.b i, off, none⟩) hz (g1.drop off)
    refine ⟨y, q1, fun R' hb => ?_⟩
    rw [run_loadAt hx'.2]
    refine q2 R' fun j v hj => ?_
    rw [add_mk, blk_cell (blk_next g2 hb)]
    rw [List.getElem?_drop] at hj
    simpa using hj
  · rename_i i base len k hx
    have hx' := (ev_ok h hG hx).2.ownx_inv
    split at he <;> first | (cases he; done) | skip
    rename_i e cs hl
    split at he <;> first | (cases he; done) | skip
    rename_i hr
    cases hb : Nat.ble (base + len) cs.length with
    | false => rw [hb] at he; cases he
    | true =>
      rw [hb] at he
      cases he
      have hk : k < len := hp _ (by simp)
      obtain ⟨_, vs, g1, g2⟩ := h.hp.ob i _ hl
      have hle := Nat.le_of_ble_eq_true hb
      have hlen := g1.length
      have hkv : k < ((vs.drop base).take len).length := by rw [List.length_take, List.length_drop]; omega
      refine ⟨((vs.drop base).take len)[k], selA_ok ((g1.drop base).take len) (Nat.zero_le _) (by rw [List.length_take, List.length_drop]; omega) (by rw [Nat.sub_zero]; exact List.getElem?_eq_getElem hkv), fun R' hb' => ?_⟩
      rw [run_loadAt hx'.2]
      refine run_loadVar_one hr ?_
      rw [blk_cell (blk_next g2 hb')]
      have := List.getElem?_eq_getElem hkv
      rw [List.getElem?_take, if_pos hk, List.getElem?_drop] at this
      simp [this]
  · rename_i i k sz off hx
    have hx' := (ev_ok h hG hx).2.el_inv
    split at he <;> first | (cases he; done) | skip
    rename_i e size els hl
    cases hb : Nat.beq size sz with
    | false => rw [hb] at he; cases he
    | true =>
      obtain rfl := Nat.eq_of_beq_eq_true hb
      rw [hb] at he
      simp only [cond_true] at he
      split at he <;> first | (cases he; done) | skip
      rename_i z' hz
      obtain ⟨rfl, hd⟩ := wth_some he
      have hk := ndB_ok hd hp
      obtain ⟨_, zs, g1, g2⟩ := h.hp.ob i _ hl
      obtain ⟨g, c, q1, _, q3, _, q5⟩ := row_place g1 (by omega)
      obtain ⟨y, r1, r2⟩ := readL_ok (ad := (placeOf (N.q i)).add (k * size + off)) hz ((g2 k hk).drop off)
      refine ⟨y, r1, fun R' hb' => ?_⟩
      rw [run_loadAt hx'.2]
      refine r2 R' fun j v hj => below_cell hb' ?_
      rw [List.getElem?_drop] at hj
      have := q5 _ _ (slice_get hj)
      rw [add_add, q3, add_mk, Nat.zero_add, Nat.add_assoc]
      exact this
  · rename_i l hx
    obtain ⟨ad, g1, g2, g3⟩ := (ev_ok h hG hx).2.ref_inv
    split at he <;> first | (cases he; done) | skip
    rename_i z' hz
    cases he
    obtain ⟨vs, g4, g5⟩ := g3.cells
    obtain ⟨y, r1, r2⟩ := readL_ok (ad := ad) hz g4
    refine ⟨y, r1, fun R' hb' => ?_⟩
    rw [run_loadAt g1]
    exact r2 R' fun j v hj => below_cell hb' (g5 j v hj)
end
end Go.Proofs.Yteebobbhhgmeiaa
