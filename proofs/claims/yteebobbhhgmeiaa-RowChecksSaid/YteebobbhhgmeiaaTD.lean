/- A symbolic run over typed data, part D: slices, strings, lengths, parts, comparisons; what leaves the world alone. -/
import Derived.Test.YteebobbhhgmeiaaTC
namespace Go.Proofs.Yteebobbhhgmeiaa
open Go.RowKit

section runs
variable {P : Program} {R : World}
theorem run_bound {k : IntKind} {i : Int} {y : Nat} {c : BoundsCode} (h0 : 0 ≤ i) (h1 : i ≤ y) : (Instr.sliceBound (.int k i) y c).run P R = .ok i.toNat R := by
  simp [Instr.sliceBound, asIntOf, h0, h1]
/-- A bound that is there, or not. -/
def BndOk (o : Option Value) (d i : Nat) : Prop := (o = none ∧ i = d) ∨ ∃ k n, o = some (.int k n) ∧ 0 ≤ n ∧ n.toNat = i
theorem run_bounds {b : Bool} {len cap l h m : Nat} {lo hi mx : Option Value} (hl : BndOk lo 0 l) (hh : BndOk hi len h) (hm : BndOk mx cap m) (hmh : mx ≠ none → hi ≠ none) (h1 : l ≤ h) (h2 : h ≤ m) (h3 : m ≤ cap) :
    (Instr.sliceBounds b len cap lo hi mx).run P R = .ok (l, h, m) R := by
  rcases hl with ⟨rfl, rfl⟩ | ⟨k1, n1, rfl, a1, rfl⟩ <;> rcases hh with ⟨rfl, rfl⟩ | ⟨k2, n2, rfl, a2, rfl⟩ <;> rcases hm with ⟨rfl, rfl⟩ | ⟨k3, n3, rfl, a3, rfl⟩ <;>
    first
    | (simp [Instr.sliceBounds]; done)
    | (simp at hmh; done)
    | (have e1 : n1 ≤ (h : Int) := by omega
       simp [Instr.sliceBounds, run_bound a1 e1]; done)
    | (have e2 : n2 ≤ (m : Int) := by omega
       simp [Instr.sliceBounds, run_bound a2 e2]; done)
    | (have e3 : n3 ≤ (cap : Int) := by omega
       have e2 : n2 ≤ (n3.toNat : Int) := by omega
       simp [Instr.sliceBounds, run_bound a2 e2, run_bound a3 e3]; done)
    | (have e2 : n2 ≤ (m : Int) := by omega
       have e1 : n1 ≤ (n2.toNat : Int) := by omega
       simp [Instr.sliceBounds, run_bound a2 e2, run_bound a1 e1]; done)
    | (have e3 : n3 ≤ (cap : Int) := by omega
       have e2 : n2 ≤ (n3.toNat : Int) := by omega
       have e1 : n1 ≤ (n2.toNat : Int) := by omega
       simp [Instr.sliceBounds, run_bound a2 e2, run_bound a1 e1, run_bound a3 e3]; done)
theorem run_slice_sl {t e : TypeId} {a : Option Addr} {len cap sz l h m : Nat} {lo hi mx : Option Value} (ht : P.underlying t = some (.slice e)) (hs : sizeP P e = some sz)
    (hl : BndOk lo 0 l) (hh : BndOk hi len h) (hm : BndOk mx cap m) (hmh : mx ≠ none → hi ≠ none) (h1 : l ≤ h) (h2 : h ≤ m) (h3 : m ≤ cap) :
    (Instr.sliceAt t (.slice a len cap) lo hi mx).run P R = .ok (.slice (if m = l then a else a.map (·.add (l * sz))) (h - l) (m - l)) R := by
  unfold sizeP at hs
  cases hi' : P.info? e with
  | none => rw [hi'] at hs; cases hs
  | some i =>
    rw [hi'] at hs
    obtain rfl : i.size = sz := Option.some.inj hs
    have hb := run_bounds (P := P) (R := R) (b := true) hl hh hm hmh h1 h2 h3
    simp [Instr.sliceAt, Instr.slice, run_underlying ht, hb, sizeOf, typeInfo, hi']
theorem run_slice_str {t : TypeId} {b : ByteArray} {l h : Nat} {lo hi : Option Value} (ht : P.underlying t = some .string)
    (hl : BndOk lo 0 l) (hh : BndOk hi b.size h) (h1 : l ≤ h) (h2 : h ≤ b.size) :
    (Instr.sliceAt t (.string b) lo hi none).run P R = .ok (.string (b.extract l h)) R := by
  have hb := run_bounds (P := P) (R := R) (b := false) (mx := none) hl hh (.inl ⟨rfl, rfl⟩) (fun h => absurd rfl h) h1 h2 (Nat.le_refl _)
  simp [Instr.sliceAt, Instr.slice, run_underlying ht, hb]
end runs

/-! ### slice expressions -/
/-- A bound's number. -/
def bndE (s : St) (G : Guards) (d : Int) : Option Operand → Option Int
  | none => some d
  | some o => match s.raw G o with
    | some (.int _ n) => some n
    | _ => none
def viewOf (o : Objs) : A → Option (Nat × (Nat → Nat → Bool → A))
  | .sq i => match lookO i o with
    | some (.arr _ sz els) => some (els.n, fun l n f => .vw i sz l n f)
    | _ => none
  | .vw i sz lo n _ => match elsN o i sz with
    | some _ => some (n, fun l n f => .vw i sz (lo + l) n f)
    | none => none
  | .sl c b => some (b.length, fun l n _ => .sl c ((b.drop l).take n))
  | _ => none
def szOf (o : Objs) : A → Nat
  | .sq i => match lookO i o with
    | some (.arr _ sz _) => sz
    | _ => 1
  | .vw _ sz _ _ _ => sz
  | .sl c _ => size c
  | _ => 1
def pureR (E : Env) (s : St) (G : Guards) (o : Oper) : R2 := match pureE E.P s G o with
  | some y => some (.v y, [])
  | none => none
def zeroB : Option Operand → Bool
  | some (.const (.int _ (.ofNat 0))) => true
  | _ => false
theorem zeroB_ok {s : St} {G : Guards} {d n : Int} {o : Option Operand} (h : zeroB o = true) (he : bndE s G d o = some n) : n = 0 := by
  unfold zeroB at h
  split at h <;> first | (cases h; done) | skip
  cases he
  rfl
def sliceE (E : Env) (s : St) (G : Guards) (o : Oper) (t : TypeId) (x : Operand) (lo hi mx : Option Operand) : R2 :=
  match s.ev G x with
  | some (.v (.string b)) => match E.P.underlying t, mx with
    | some .string, none => match bndE s G 0 lo, bndE s G b.size hi with
      | some l, some h => wth (.v (.string (b.extract l.toNat h.toNat))) (ndB E.lit (0 ≤ l ∧ l ≤ h ∧ h ≤ (b.size : Int)))
      | _, _ => none
    | _, _ => none
  | some (.v _) => pureR E s G o
  | some w => match viewOf s.o w, E.P.underlying t with
    | some (n, f), some (.slice e) => match sizeP E.P e with
      | some sz => bif Nat.beq sz (szOf s.o w) then (match bndE s G 0 lo, bndE s G n hi, bndE s G n mx with
        | some l, some h, some m => match mx, hi with
          | none, _ => wth (f l.toNat (h.toNat - l.toNat) false) (ndB E.lit (0 ≤ l ∧ l ≤ h ∧ h ≤ (n : Int)))
          | some _, some _ => wth (bif zeroB hi && zeroB mx then .nl else f l.toNat (h.toNat - l.toNat) (decide (m = h))) (ndB E.lit (0 ≤ l ∧ l ≤ h ∧ h ≤ m ∧ m ≤ (n : Int)))
          | some _, none => none
        | _, _, _ => none) else none
      | none => none
    | _, _ => none
  | none => none

section
variable {E : Env} {Z : Base} {F : Nat → Prop} {N : Nm} {s : St} {a : Act} {R : World} {G : Guards}

theorem bnd_ok (h : Rel Z F N s a R) (hG : GOk (tmOf a) G) {d : Nat} {o : Option Operand} {n : Int} (he : bndE s G d o = some n) (h0 : 0 ≤ n) : BndOk (o.map a.eval) d n.toNat := by
  cases o with
  | none => cases he; exact .inl ⟨rfl, by simp⟩
  | some x =>
    unfold bndE at he
    simp only at he
    split at he <;> first | (cases he; done) | skip
    rename_i k m hr
    cases he
    exact .inr ⟨k, n, by rw [Option.map_some, raw_ok h hG hr], h0, rfl⟩

/-- What a view is: a slice whose length is known, and its parts. -/
theorem view_ok (h : HRel F N s.nx s.o R) {w : A} {y : Value} {n : Nat} {f : Nat → Nat → Bool → A} (hv : viewOf s.o w = some (n, f)) (hw : Hv F N s.nx R w y) :
    ∃ a c, y = .slice a n c ∧ n ≤ c ∧ ∀ l k c' (fu : Bool), l + k ≤ n → k ≤ c' → (fu = true → c' = k) → ∀ a', (0 < k → a' = a.map (·.add (l * szOf s.o w))) → Hv F N s.nx R (f l k fu) (.slice a' k c') := by
  unfold viewOf at hv
  split at hv <;> first | (cases hv; done) | skip
  · rename_i i
    obtain ⟨hi, rfl⟩ := hw.sq_inv
    split at hv <;> first | (cases hv; done) | skip
    rename_i e sz els hl
    cases hv
    obtain ⟨_, zs, g1, _⟩ := h.ob i _ hl
    have hsz : szOf s.o (.sq i) = sz := by unfold szOf; simp only [hl]
    rw [hsz]
    obtain ⟨aa, c, q1, q2⟩ := g1.form
    refine ⟨aa, c, q1, q2, fun l k c' fu h1 h2 h3 a' h4 => .vw hi h2 h3 fun hk => ?_⟩
    obtain ⟨g, c2, r1, _, r3, _, _⟩ := row_place g1 (by omega)
    rw [h4 hk]
    rw [r1] at q1
    cases q1
    rw [r3]
    rfl
  · rename_i i sz lo m fu0
    obtain ⟨hi, aa, c, rfl, q2, _, q4⟩ := hw.vw_inv
    split at hv <;> first | (cases hv; done) | skip
    rename_i m' hm
    cases hv
    refine ⟨aa, c, rfl, q2, fun l k c' fu h1 h2 h3 a' h4 => .vw hi h2 h3 fun hk => ?_⟩
    rw [h4 hk, q4 (by omega)]
    show some (((placeOf (N.q i)).add (lo * sz)).add (l * sz)) = _
    rw [add_add, Nat.add_mul]
  · rename_i ct b
    obtain ⟨aa, c, rfl, q2, q3⟩ := hw.sl_inv
    cases hv
    refine ⟨aa, c, rfl, q2, fun l k c' fu h1 h2 h3 a' h4 => ?_⟩
    have hlen : ((b.drop l).take k).length = k := by rw [List.length_take, List.length_drop]; omega
    have main : Hv F N s.nx R (.sl ct ((b.drop l).take k)) (.slice a' ((b.drop l).take k).length c') := by
      refine Hv.of_sl (by omega) fun hk => ?_
      rw [hlen] at hk
      obtain ⟨ad, rfl, r1, r2⟩ := q3 (by omega)
      refine ⟨ad.add (l * size ct), h4 hk, by rw [add_block]; exact r1, fun i d hd => ?_⟩
      rw [add_add, ← Nat.add_mul]
      refine r2 (l + i) d ?_
      rw [List.getElem?_take] at hd
      split at hd <;> first | (cases hd; done) | skip
      rwa [List.getElem?_drop] at hd
    rw [hlen] at main
    exact main

/-- A value that is there at once. -/
def Now (E : Env) (F : Nat → Prop) (N : Nm) (nx : Nat) (R : World) (z : A) (m : Sem Value) : Prop := ∃ y, Hv F N nx R z y ∧ ∀ R', Below R.heap.size R R' → m.run E.P R' = .ok y R'

theorem pureR_ok (h : Rel Z F N s a R) (hG : GOk (tmOf a) G) {o : Oper} {z : A} {ps : List Prop} (he : pureR E s G o = some (z, ps)) : ∃ y, Hv F N s.nx R z y ∧ ∀ R', (execOp a.eval o).run E.P R' = .ok (.value y) R' := by
  unfold pureR at he
  split at he <;> first | (cases he; done) | skip
  rename_i y hy
  cases he
  exact ⟨y, Hv.v _, fun R' => pureE_any h hG hy R'⟩

theorem slice_ok (h : Rel Z F N s a R) (hG : GOk (tmOf a) G) {o : Oper} {t : TypeId} {x : Operand} {lo hi mx : Option Operand} (ho : o.op = .slice t x lo hi mx) {z : A} {ps : List Prop} (he : sliceE E s G o t x lo hi mx = some (z, ps)) (hp : ∀ p ∈ ps, p) :
    ∃ y, Hv F N s.nx R z y ∧ ∀ R', (execOp a.eval o).run E.P R' = .ok (.value y) R' := by
  have hex : execOp a.eval o = (do pure (.value (← Instr.sliceAt t (a.eval x) (lo.map a.eval) (hi.map a.eval) (mx.map a.eval)))) := by
    obtain ⟨dst, op, type, pos, after, guard⟩ := o
    simp only at ho
    subst ho
    rfl
  unfold sliceE at he
  split at he <;> first | (cases he; done) | skip
  · rename_i b hx
    split at he <;> first | (cases he; done) | skip
    rename_i hu
    split at he <;> first | (cases he; done) | skip
    rename_i l hh hl hhi
    obtain ⟨rfl, hd⟩ := wth_some he
    obtain ⟨h0, h1, h2⟩ := ndB_ok hd hp
    have hx' := (ev_ok h hG hx).2.v_inv
    refine ⟨_, Hv.v _, fun R' => ?_⟩
    rw [hex, hx']
    have := run_slice_str (P := E.P) (R := R') (b := b) hu (bnd_ok h hG hl h0) (bnd_ok h hG hhi (by omega)) (by omega) (by omega)
    simp [this]
  · exact pureR_ok h hG he
  · rename_i w hnv hx hx0
    have hx' := (ev_ok h hG hx0).2
    split at he <;> first | (cases he; done) | skip
    rename_i n f e hv hu
    split at he <;> first | (cases he; done) | skip
    rename_i sz hsz
    cases hb : Nat.beq sz (szOf s.o w) with
    | false => rw [hb] at he; cases he
    | true =>
      rw [hb] at he
      obtain rfl := Nat.eq_of_beq_eq_true hb
      simp only [cond_true] at he
      split at he <;> first | (cases he; done) | skip
      rename_i l hh m hl hhi hmx
      obtain ⟨aa, c, q1, q2, q3⟩ := view_ok h.hp hv hx'
      split at he <;> first | (cases he; done) | skip
      · obtain ⟨rfl, hd⟩ := wth_some he
        obtain ⟨h0, h1, h2⟩ := ndB_ok hd hp
        refine ⟨_, q3 l.toNat (hh.toNat - l.toNat) (c - l.toNat) false (by omega) (by omega) (fun e => by cases e) (if c = l.toNat then aa else aa.map (·.add (l.toNat * szOf s.o w))) (fun hk => if_neg (by omega)), fun R' => ?_⟩
        rw [hex, q1]
        have := run_slice_sl (P := E.P) (R := R') (a := aa) (len := n) (cap := c) hu hsz (bnd_ok h hG hl h0) (bnd_ok h hG hhi (by omega)) (mx := none) (m := c) (.inl ⟨rfl, rfl⟩) (fun h => absurd rfl h) (by omega) (by omega) (Nat.le_refl _)
        simp only [Option.map_none, Sem.run_bind, this, Result.andThen_ok, Sem.run_pure]
      · rename_i mo hio
        obtain ⟨rfl, hd⟩ := wth_some he
        obtain ⟨h0, h1, h2, h3⟩ := ndB_ok hd hp
        refine ⟨.slice (if m.toNat = l.toNat then aa else aa.map (·.add (l.toNat * szOf s.o w))) (hh.toNat - l.toNat) (m.toNat - l.toNat), ?_, fun R' => ?_⟩
        · cases hz : (zeroB (some hio) && zeroB (some mo)) with
          | false => exact q3 l.toNat (hh.toNat - l.toNat) (m.toNat - l.toNat) (decide (m = hh)) (by omega) (by omega) (fun e => by have := of_decide_eq_true e; omega) _ (fun hk => if_neg (by omega))
          | true =>
            simp only [Bool.and_eq_true] at hz
            have e1 := zeroB_ok hz.1 hhi
            have e2 := zeroB_ok hz.2 hmx
            subst e1 e2
            rw [show (0 : Int).toNat = 0 from rfl, Nat.zero_sub]
            exact .nl _
        rw [hex, q1]
        have hbm : BndOk (Option.map a.eval (some mo)) c m.toNat := by
          rcases bnd_ok h hG hmx (by omega) with ⟨e1, _⟩ | e2
          · cases e1
          · exact .inr e2
        have := run_slice_sl (P := E.P) (R := R') (a := aa) (len := n) (cap := c) hu hsz (bnd_ok h hG hl h0) (bnd_ok h hG hhi (by omega)) hbm (fun _ e => by cases e) (by omega) (by omega) (by omega)
        simp only [Sem.run_bind, this, Result.andThen_ok, Sem.run_pure]
end
end Go.Proofs.Yteebobbhhgmeiaa
