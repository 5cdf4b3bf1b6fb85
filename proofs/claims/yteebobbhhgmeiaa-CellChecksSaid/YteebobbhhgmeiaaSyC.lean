/- A symbolic run with sequences, part C: addresses, what is read and written, calls. -/
import Derived.Test.YteebobbhhgmeiaaSyB
import Derived.Lib.AppendStr
import Derived.Laws.BytesArg
namespace Go.Proofs.Yteebobbhhgmeiaa
open Go.RowKit

def sizeP (P : Program) (t : TypeId) : Option Nat := (P.info? t).map (·.size)
def rowP (P : Program) (t : TypeId) : Option Bool := (P.underlying t).map fun d => match d with | .struct _ | .array _ _ => true | _ => false

theorem add_mk (b o k : Nat) : (⟨b, o, none⟩ : Addr).add k = ⟨b, o + k, none⟩ := Addr.add_mid b o k

section runs
variable {P : Program} {R : World}
theorem run_fieldAt {t : TypeId} {x : Value} {f : Nat} {fs : Array Field} {fd : Field} {n : Nat} {ad : Addr} (ht : P.underlying t = some (.struct fs)) (hf : fs[f]? = some fd) (hn : sizeP P fd.type = some n) (h0 : n ≠ 0) (hx : x = .pointer (some ad)) :
    (Instr.fieldAt t x f).run P R = .ok (.pointer (some (ad.add fd.offset))) R := by
  subst hx
  unfold sizeP at hn
  cases hi : P.info? fd.type with
  | none => rw [hi] at hn; cases hn
  | some i =>
    rw [hi] at hn
    obtain rfl : i.size = n := Option.some.inj hn
    simp [Instr.fieldAt, run_underlying ht, hf, Instr.sureAddr, fieldPlace, sizeOf, typeInfo, hi, h0]

theorem run_indexAt_arr {t e : TypeId} {x : Value} {k : IntKind} {i : Int} {len n : Nat} {ad : Addr} (ht : P.underlying t = some (.array len e)) (hn : sizeP P e = some n) (hx : x = .pointer (some ad)) (h0 : 0 ≤ i) (h1 : i < len) :
    (Instr.indexAt t x (.int k i)).run P R = .ok (.pointer (some (ad.add (i.toNat * n)))) R := by
  subst hx
  unfold sizeP at hn
  cases hi : P.info? e with
  | none => rw [hi] at hn; cases hn
  | some d =>
    rw [hi] at hn
    obtain rfl : d.size = n := Option.some.inj hn
    simp [Instr.indexAt, run_underlying ht, Instr.sureAddr, sizeOf, typeInfo, hi, h0, h1, asIntOf]
theorem run_indexAt_sl {t e : TypeId} {x : Value} {k : IntKind} {i : Int} {len cap n : Nat} {ad : Addr} (ht : P.underlying t = some (.slice e)) (hn : sizeP P e = some n) (hx : x = .slice (some ad) len cap) (h0 : 0 ≤ i) (h1 : i < len) :
    (Instr.indexAt t x (.int k i)).run P R = .ok (.pointer (some (ad.add (i.toNat * n)))) R := by
  subst hx
  unfold sizeP at hn
  cases hi : P.info? e with
  | none => rw [hi] at hn; cases hn
  | some d =>
    rw [hi] at hn
    obtain rfl : d.size = n := Option.some.inj hn
    simp [Instr.indexAt, run_underlying ht, sizeOf, typeInfo, hi, h0, h1, asIntOf]

theorem run_loadVar_one {t : TypeId} {ad : Addr} {v : Value} (hr : rowP P t = some false) (hc : R.cell? ad = some v) : (loadVar t ad).run P R = .ok v R := by
  unfold rowP at hr
  cases hu : P.underlying t with
  | none => rw [hu] at hr; cases hr
  | some d =>
    rw [hu] at hr
    have hl : (load ad).run P R = .ok v R := by simp [hc]
    cases d <;> first | (simp [loadVar, isAgg, run_underlying hu, hc]; done) | (simp at hr; done)
theorem run_loadVar_agg {t : TypeId} {ad : Addr} {cs : List Value} (hr : rowP P t = some true) (hs : sizeP P t = some cs.length) (hc : ∀ j v, cs[j]? = some v → R.cell? (ad.add j) = some v) : (loadVar t ad).run P R = .ok (.agg cs.toArray) R := by
  have hl := run_loadCells_list (P := P) R ad cs hc
  unfold rowP at hr
  unfold sizeP at hs
  cases hu : P.underlying t with
  | none => rw [hu] at hr; cases hr
  | some d =>
    rw [hu] at hr
    cases hi : P.info? t with
    | none => rw [hi] at hs; cases hs
    | some i =>
      rw [hi] at hs
      have hs' : i.size = cs.length := Option.some.inj hs
      cases d <;> first | (simp [loadVar, isAgg, run_underlying hu, sizeOf, typeInfo, hi, hs', hl]; done) | (simp at hr; done)
theorem run_loadAt {t : TypeId} {x : Value} {ad : Addr} (hx : x = .pointer (some ad)) : (Instr.loadAt t x).run P R = (loadVar t ad).run P R := by
  subst hx
  simp [Instr.loadAt, Instr.sureAddr]
theorem run_storeAt {t : TypeId} {x v : Value} {b o : Nat} {e : TypeId} {cs : List Value} (hx : x = .pointer (some ⟨b, o, none⟩)) (hb : R.heap[b]? = some (.cells cs.toArray e (0, 0))) (hs : sizeP P t = some v.cells.toList.length)
    (hl : o + v.cells.toList.length ≤ cs.length) (h1 : ∀ c ∈ v.cells.toList, c.oneCell' = true) :
    (Instr.storeAt t x v).run P R = .ok () (R.setRow b (cs.take o ++ v.cells.toList ++ cs.drop (o + v.cells.toList.length)).toArray) := by
  subst hx
  have h := run_storeCells_at (P := P) b o e v.cells.toList 0 cs.toArray R hb (by simpa using hl) h1
  unfold sizeP at hs
  cases hi : P.info? t with
  | none => rw [hi] at hs; cases hs
  | some i =>
    rw [hi] at hs
    have hs' : i.size = v.cells.size := by have := Option.some.inj hs; simpa using this
    simp only [Instr.storeAt, Instr.sureAddr, Sem.run_bind, Sem.run_pure, Result.andThen_ok]
    simp only [Nat.add_zero] at h
    simp [storeVar, sizeOf, typeInfo, hi, hs', h]
theorem run_allocAt {e : TypeId} {z : Value} (hz : (P.info? e).bind (·.zero) = some z) : (Instr.alloc e true (.tuple #[])).run P R = .ok (.pointer (some ⟨R.heap.size, 0, none⟩)) (R.alloc (.cells z.cells.toList.toArray e (0, 0))) := by
  cases hi : P.info? e with
  | none => rw [hi] at hz; cases hz
  | some i =>
    rw [hi] at hz
    have hz' : i.zero = some z := hz
    simp [Instr.alloc, zeroValue, typeInfo, hi, hz', newVar, newRow]
theorem run_boxAt {e : TypeId} {v : Value} : (Instr.box e v).run P R = .ok (.pointer (some ⟨R.heap.size, 0, none⟩)) (R.alloc (.cells v.cells.toList.toArray e (0, 0))) := by
  simp [Instr.box, newVar, newRow]
end runs

/-! ### what is read of memory that is not the call's own -/
def rdI (w : World) (ad : Addr) : Int := match w.cell? ad with | some (.int _ n) => n | _ => 0
def rdB (w : World) (ad : Addr) : Bool := match w.cell? ad with | some (.bool b) => b | _ => false
def rdS (w : World) (ad : Addr) : ByteArray := match w.cell? ad with | some (.string b) => b | _ => ⟨#[]⟩
def rdA (w : World) (ad : Addr) : Option Addr := match w.cell? ad with | some (.slice A _ _) => A | _ => none
def rdL (w : World) (ad : Addr) : Nat := match w.cell? ad with | some (.slice _ n _) => n | _ => 0
def rdC (w : World) (ad : Addr) : Nat := match w.cell? ad with | some (.slice _ _ c) => c | _ => 0
def rdP (w : World) (ad : Addr) : Option Addr := match w.cell? ad with | some (.pointer A) => A | _ => none
def rdAs (w : World) (ad : Addr) : Value → Value
  | .int k _ => .int k (rdI w ad)
  | .bool _ => .bool (rdB w ad)
  | .string _ => .string (rdS w ad)
  | .slice _ _ _ => .slice (rdA w ad) (rdL w ad) (rdC w ad)
  | .pointer _ => .pointer (rdP w ad)
  | x => x
def rdCells (w : World) (ad : Addr) : Nat → List Value → List Value
  | _, [] => []
  | j, z :: zs => rdAs w (ad.add j) z :: rdCells w ad (j + 1) zs
/-- What must be there. -/
def NeedAt (E : Env) (ad : Addr) (v : Value) : Prop := ad.block < E.w0.heap.size ∧ E.w0.cell? ad = some v
def needCells (E : Env) (ad : Addr) : Nat → List Value → List Prop
  | _, [] => []
  | j, z :: zs => NeedAt E (ad.add j) (rdAs E.w0 (ad.add j) z) :: needCells E ad (j + 1) zs

def addrOf : Option Addr → Addr
  | some a => a
  | none => ⟨0, 0, none⟩

theorem needCells_ok {E : Env} {ad : Addr} : ∀ {zs : List Value} {j : Nat}, (∀ p ∈ needCells E ad j zs, p) → ∀ i v, (rdCells E.w0 ad j zs)[i]? = some v → NeedAt E (ad.add (j + i)) v
  | [], _, _, _, _, h => by cases h
  | z :: zs, j, hp, 0, v, h => by
    obtain rfl := Option.some.inj h
    exact hp _ (List.mem_cons_self ..)
  | z :: zs, j, hp, i + 1, v, h => by
    have := needCells_ok (zs := zs) (j := j + 1) (fun p hm => hp p (List.mem_cons_of_mem _ hm)) i v h
    rwa [show j + 1 + i = j + (i + 1) by omega] at this
theorem rdCells_length (w : World) (ad : Addr) : ∀ (zs : List Value) (j : Nat), (rdCells w ad j zs).length = zs.length
  | [], _ => rfl
  | z :: zs, j => by
    show (rdCells w ad (j + 1) zs).length + 1 = zs.length + 1
    rw [rdCells_length w ad zs (j + 1)]
theorem safe_cell {E : Env} {R : World} (hs : Below E.w0.heap.size E.w0 R) {ad : Addr} {v : Value} (h : NeedAt E ad v) : R.cell? ad = some v := by
  obtain ⟨h1, h2⟩ := h
  rw [World.cell?_of_block (hs.block ad.block h1)]
  exact h2

/-! ### a cell of a box whose place is reckoned -/
/-- A box's cells that are all values. -/
def rawL : List LV → Option (List Value)
  | [] => some []
  | .v x :: r => match rawL r with
    | some l => some (x :: l)
    | none => none
  | _ :: _ => none
theorem rawL_ok {N : Nm} : ∀ {cs : List LV} {xs vs : List Value}, rawL cs = some xs → CellsAre N cs vs → vs = xs
  | [], xs, [], h, _ => by cases h; rfl
  | [], _, _ :: _, _, h => h.elim
  | .v x :: r, xs, v :: vs, h, hc => by
    unfold rawL at h
    cases hr : rawL r with
    | none => rw [hr] at h; cases h
    | some l =>
      rw [hr] at h
      cases h
      obtain ⟨h1, h2⟩ := hc
      have e1 : v = x := h1
      rw [e1, rawL_ok hr h2]
  | .v _ :: _, _, [], _, h => h.elim
  | .sq _ :: _, _, _, h, _ => by cases h
  | .dead :: _, _, _, h, _ => by cases h
def toL : List Value → List LV
  | [] => []
  | x :: r => .v x :: toL r
theorem toL_ok {N : Nm} : ∀ xs : List Value, CellsAre N (toL xs) xs
  | [] => trivial
  | _ :: r => ⟨rfl, toL_ok r⟩
theorem cells_length {N : Nm} : ∀ {cs : List LV} {vs : List Value}, CellsAre N cs vs → cs.length = vs.length
  | [], [], _ => rfl
  | _ :: _, _ :: _, ⟨_, h⟩ => by rw [List.length_cons, List.length_cons, cells_length h]
  | [], _ :: _, h => h.elim
  | _ :: _, [], h => h.elim
theorem cells_get {N : Nm} : ∀ {cs : List LV} {vs : List Value} {j : Nat} {c : LV}, CellsAre N cs vs → cs[j]? = some c → ∃ v, vs[j]? = some v ∧ LVIs N c v
  | [], [], _, _, _, h => by cases h
  | c :: _, v :: _, 0, _, ⟨h1, _⟩, h => by cases h; exact ⟨v, rfl, h1⟩
  | _ :: _, _ :: _, j + 1, _, ⟨_, h2⟩, h => cells_get (j := j) h2 h
  | [], _ :: _, _, _, h, _ => h.elim
  | _ :: _, [], _, _, h, _ => h.elim
theorem cells_drop {N : Nm} : ∀ {cs : List LV} {vs : List Value} (n : Nat), CellsAre N cs vs → CellsAre N (cs.drop n) (vs.drop n)
  | _, _, 0, h => h
  | [], [], _ + 1, _ => trivial
  | _ :: _, _ :: _, n + 1, ⟨_, h⟩ => cells_drop n h
  | [], _ :: _, _ + 1, h => h.elim
  | _ :: _, [], _ + 1, h => h.elim
theorem cells_take {N : Nm} : ∀ {cs : List LV} {vs : List Value} (n : Nat), CellsAre N cs vs → CellsAre N (cs.take n) (vs.take n)
  | cs, vs, 0, _ => by rw [List.take_zero, List.take_zero]; trivial
  | [], [], _ + 1, _ => trivial
  | _ :: _, _ :: _, n + 1, ⟨h1, h⟩ => ⟨h1, cells_take n h⟩
  | [], _ :: _, _ + 1, h => h.elim
  | _ :: _, [], _ + 1, h => h.elim
theorem cells_append {N : Nm} : ∀ {cs ds : List LV} {vs us : List Value}, CellsAre N cs vs → CellsAre N ds us → CellsAre N (cs ++ ds) (vs ++ us)
  | [], _, [], _, _, h => h
  | _ :: _, _, _ :: _, _, ⟨h1, h2⟩, h => ⟨h1, cells_append h2 h⟩
  | [], _, _ :: _, _, h, _ => h.elim
  | _ :: _, _, [], _, h, _ => h.elim
theorem live_map {N : Nm} : ∀ {cs : List LV} {vs : List Value}, liveL cs = true → CellsAre N cs vs → vs = cs.map (concL N)
  | [], [], _, _ => rfl
  | c :: cs, v :: vs, h, ⟨h1, h2⟩ => by
    unfold liveL at h
    cases c with
    | dead => cases h
    | v x =>
      have e : v = x := h1
      rw [List.map_cons, e, live_map (cs := cs) h h2]
      rfl
    | sq k =>
      have e : v = N.q k := h1
      rw [List.map_cons, e, live_map (cs := cs) h h2]
      rfl
  | [], _ :: _, _, h => h.elim
  | _ :: _, [], _, h => h.elim
theorem map_are {N : Nm} : ∀ {cs : List LV}, CellsAre N cs (cs.map (concL N))
  | [] => trivial
  | c :: cs => ⟨(by cases c <;> first | rfl | trivial), map_are⟩

def selV (k : Nat) : Nat → List Value → Option Value
  | _, [] => none
  | _, [x] => some x
  | j, x :: y :: r => match selV k (j + 1) (y :: r) with
    | some z => mergeV 2 (Nat.beq k j) x z
    | none => none
theorem selV_ok {k : Nat} : ∀ {l : List Value} {j : Nat} {z : Value}, selV k j l = some z → j ≤ k → k < j + l.length → l[k - j]? = some z
  | [], _, _, h, _, _ => by cases h
  | [x], j, z, h, h1, h2 => by
    obtain rfl := Option.some.inj h
    simp at h2
    rw [show k - j = 0 by omega]
    rfl
  | x :: y :: r, j, z, h, h1, h2 => by
    unfold selV at h
    cases hs : selV k (j + 1) (y :: r) with
    | none => simp only [hs] at h; cases h
    | some u =>
      simp only [hs] at h
      rw [mergeV_ok h]
      by_cases hk : k = j
      · subst hk
        simp
      · have hb : Nat.beq k j = false := by
          cases hb : Nat.beq k j with
          | true => exact absurd (Nat.eq_of_beq_eq_true hb) hk
          | false => rfl
        rw [hb, show k - j = (k - (j + 1)) + 1 by omega, List.getElem?_cons_succ]
        exact selV_ok hs (by omega) (by simp at h2 ⊢; omega)
def setV (k : Nat) (v : Value) : Nat → List Value → Option (List Value)
  | _, [] => some []
  | j, x :: r => match mergeV 2 (Nat.beq k j) v x with
    | some z => match setV k v (j + 1) r with
      | some zs => some (z :: zs)
      | none => none
    | none => none
theorem setV_past {k : Nat} {v : Value} : ∀ {l : List Value} {j : Nat} {zs : List Value}, setV k v j l = some zs → k < j → zs = l
  | [], _, _, h, _ => (Option.some.inj h).symm
  | x :: r, j, zs, h, hk => by
    unfold setV at h
    cases h1 : mergeV 2 (Nat.beq k j) v x with
    | none => simp only [h1] at h; cases h
    | some z =>
      cases h2 : setV k v (j + 1) r with
      | none => simp only [h1, h2] at h; cases h
      | some zs' =>
        simp only [h1, h2] at h
        obtain rfl := Option.some.inj h
        have hb : Nat.beq k j = false := by
          cases hb : Nat.beq k j with
          | true => exact absurd (Nat.eq_of_beq_eq_true hb) (by omega)
          | false => rfl
        have e1 := mergeV_ok h1
        rw [hb] at e1
        rw [e1, setV_past h2 (by omega)]
        rfl
theorem setV_ok {k : Nat} {v : Value} : ∀ {l : List Value} {j : Nat} {zs : List Value}, setV k v j l = some zs → j ≤ k → k < j + l.length → zs = l.take (k - j) ++ [v] ++ l.drop (k - j + 1)
  | [], _, _, _, _, h2 => by simp at h2; omega
  | x :: r, j, zs, h, hk, h2 => by
    unfold setV at h
    cases h1 : mergeV 2 (Nat.beq k j) v x with
    | none => simp only [h1] at h; cases h
    | some z =>
      cases h3 : setV k v (j + 1) r with
      | none => simp only [h1, h3] at h; cases h
      | some zs' =>
        simp only [h1, h3] at h
        obtain rfl := Option.some.inj h
        have e1 := mergeV_ok h1
        by_cases hkj : k = j
        · subst hkj
          have hb : Nat.beq k k = true := by simp
          rw [hb] at e1
          rw [e1, setV_past h3 (by omega), show k - k = 0 by omega]
          rfl
        · have hb : Nat.beq k j = false := by
            cases hb : Nat.beq k j with
            | true => exact absurd (Nat.eq_of_beq_eq_true hb) hkj
            | false => rfl
          rw [hb] at e1
          rw [e1, setV_ok h3 (by omega) (by simp at h2; omega), show k - j = (k - (j + 1)) + 1 by omega]
          rfl
end Go.Proofs.Yteebobbhhgmeiaa
