/- A symbolic run over typed data, part B: the frame; pure operations, merge, choice. -/
import Derived.Test.YteebobbhhgmeiaaTA
import Derived.Test.YteebobbhhgmeiaaMax
namespace Go.Proofs.Yteebobbhhgmeiaa
open Go.RowKit

/-! ### the frame -/
def tmOf (a : Act) : Nat → Value := fun u => a.tmps.getD u undef
def HS (F : Nat → Prop) (N : Nm) (nx : Nat) (R : World) (tm : Nat → Value) : A → Value → Prop
  | .opt u b x, y => (tm u = .bool b → HS F N nx R tm x y) ∧ (tm u ≠ .bool b → y = undef)
  | x, y => Hv F N nx R x y
def A.dep (u : Nat) : A → Bool
  | .opt k _ x => bif Nat.beq k u then true else x.dep u
  | _ => false
def A.plain : A → Bool
  | .opt _ _ _ => false
  | _ => true
theorem HS_plain {F : Nat → Prop} {N : Nm} {nx : Nat} {R : World} {tm : Nat → Value} {x : A} {y : Value} (hp : x.plain = true) : HS F N nx R tm x y ↔ Hv F N nx R x y := by
  cases x <;> first | (cases hp; done) | (simp only [HS]; done)
theorem HS.step {F F' : Nat → Prop} {N N' : Nm} {nx nx' : Nat} {R R' : World} (st : Ext F N nx R F' N' nx' R') {tm : Nat → Value} : ∀ {x : A} {y : Value}, HS F N nx R tm x y → HS F' N' nx' R' tm x y
  | .opt _ _ _, _, h => by
    simp only [HS] at h ⊢
    exact ⟨fun hb => HS.step st (h.1 hb), h.2⟩
  | .v _, _, h => (HS_plain rfl).2 (((HS_plain rfl).1 h).step st)
  | .sl _ _, _, h => (HS_plain rfl).2 (((HS_plain rfl).1 h).step st)
  | .own _ _, _, h => (HS_plain rfl).2 (((HS_plain rfl).1 h).step st)
  | .ownx _ _ _ _, _, h => (HS_plain rfl).2 (((HS_plain rfl).1 h).step st)
  | .sq _, _, h => (HS_plain rfl).2 (((HS_plain rfl).1 h).step st)
  | .vw _ _ _ _ _, _, h => (HS_plain rfl).2 (((HS_plain rfl).1 h).step st)
  | .el _ _ _ _, _, h => (HS_plain rfl).2 (((HS_plain rfl).1 h).step st)
  | .ref _, _, h => (HS_plain rfl).2 (((HS_plain rfl).1 h).step st)
  | .mp _, _, h => (HS_plain rfl).2 (((HS_plain rfl).1 h).step st)
  | .nl, _, h => (HS_plain rfl).2 (((HS_plain rfl).1 h).step st)
  | .it _ _, _, h => (HS_plain rfl).2 (((HS_plain rfl).1 h).step st)
  | .fn _ _ _, _, h => (HS_plain rfl).2 (((HS_plain rfl).1 h).step st)
  | .agg _, _, h => (HS_plain rfl).2 (((HS_plain rfl).1 h).step st)
  | .tup _, _, h => (HS_plain rfl).2 (((HS_plain rfl).1 h).step st)
  | .dead, _, h => (HS_plain rfl).2 (((HS_plain rfl).1 h).step st)
theorem HS.congr {F : Nat → Prop} {N : Nm} {nx : Nat} {R : World} {tm tm' : Nat → Value} {u : Nat} (ht : ∀ k, k ≠ u → tm' k = tm k) : ∀ {x : A} {y : Value}, x.dep u = false → HS F N nx R tm x y → HS F N nx R tm' x y
  | .opt k b x, y, hd, h => by
    unfold A.dep at hd
    cases hk : Nat.beq k u with
    | true => rw [hk] at hd; cases hd
    | false =>
      rw [hk] at hd
      have hne : k ≠ u := fun e => by subst e; simp at hk
      simp only [HS] at h ⊢
      rw [ht k hne]
      exact ⟨fun hb => HS.congr ht hd (h.1 hb), h.2⟩
  | .v _, _, _, h => (HS_plain rfl).2 ((HS_plain rfl).1 h)
  | .sl _ _, _, _, h => (HS_plain rfl).2 ((HS_plain rfl).1 h)
  | .own _ _, _, _, h => (HS_plain rfl).2 ((HS_plain rfl).1 h)
  | .ownx _ _ _ _, _, _, h => (HS_plain rfl).2 ((HS_plain rfl).1 h)
  | .sq _, _, _, h => (HS_plain rfl).2 ((HS_plain rfl).1 h)
  | .vw _ _ _ _ _, _, _, h => (HS_plain rfl).2 ((HS_plain rfl).1 h)
  | .el _ _ _ _, _, _, h => (HS_plain rfl).2 ((HS_plain rfl).1 h)
  | .ref _, _, _, h => (HS_plain rfl).2 ((HS_plain rfl).1 h)
  | .mp _, _, _, h => (HS_plain rfl).2 ((HS_plain rfl).1 h)
  | .nl, _, _, h => (HS_plain rfl).2 ((HS_plain rfl).1 h)
  | .it _ _, _, _, h => (HS_plain rfl).2 ((HS_plain rfl).1 h)
  | .fn _ _ _, _, _, h => (HS_plain rfl).2 ((HS_plain rfl).1 h)
  | .agg _, _, _, h => (HS_plain rfl).2 ((HS_plain rfl).1 h)
  | .tup _, _, _, h => (HS_plain rfl).2 ((HS_plain rfl).1 h)
  | .dead, _, _, h => (HS_plain rfl).2 ((HS_plain rfl).1 h)

def kill (u : Nat) : Slots → Slots
  | [] => []
  | (k, x) :: r => (bif x.dep u then (k, .dead) else (k, x)) :: kill u r
def St.get (s : St) (u : Nat) : Option A := look u s.t
def St.put (s : St) (u : Nat) (x : A) : St := { s with t := (u, x) :: kill u s.t }
theorem look_kill {u k : Nat} {x : A} : ∀ {t : Slots}, look u (kill k t) = some x → x = .dead ∨ (look u t = some x ∧ x.dep k = false)
  | [], h => by cases h
  | (j, y) :: r, h => by
    unfold kill at h
    cases hd : y.dep k with
    | true =>
      rw [hd] at h
      have h' : (bif Nat.beq j u then some A.dead else look u (kill k r)) = some x := h
      cases hj : Nat.beq j u with
      | true => rw [hj] at h'; cases h'; exact .inl rfl
      | false =>
        rw [hj] at h'
        rcases look_kill h' with e | ⟨h1, h2⟩
        · exact .inl e
        · exact .inr ⟨by show (bif Nat.beq j u then some y else look u r) = _; rw [hj]; exact h1, h2⟩
    | false =>
      rw [hd] at h
      have h' : (bif Nat.beq j u then some y else look u (kill k r)) = some x := h
      cases hj : Nat.beq j u with
      | true =>
        rw [hj] at h'
        obtain rfl : y = x := Option.some.inj h'
        exact .inr ⟨by show (bif Nat.beq j u then some y else look u r) = _; rw [hj]; rfl, hd⟩
      | false =>
        rw [hj] at h'
        rcases look_kill h' with e | ⟨h1, h2⟩
        · exact .inl e
        · exact .inr ⟨by show (bif Nat.beq j u then some y else look u r) = _; rw [hj]; exact h1, h2⟩


/-- Where a run began: what was said of the world then, and the slots that may turn. -/
structure Base where
  F : Nat → Prop
  N : Nm
  nx : Nat
  o : Objs
  R : World
  tm : Nat → Value
  W : Nat → Prop

structure Rel (Z : Base) (F : Nat → Prop) (N : Nm) (s : St) (a : Act) (R : World) : Prop where
  defers : a.defers = []
  size : a.tmps.size = s.n
  slots : ∀ u x, s.get u = some x → HS F N s.nx R (tmOf a) x (tmOf a u)
  hp : HRel F N s.nx s.o R
  st : Step Z.F Z.N Z.nx Z.o Z.R F N s.nx s.o R
  tm : ∀ u, ¬ Z.W u → tmOf a u = Z.tm u

theorem tm_put_ne {a : Act} {d u : Nat} (v : Value) (h : u ≠ d) : tmOf (a.put (some d) v) u = tmOf a u := by
  unfold tmOf
  rw [put_getD]
  rw [if_neg (fun e => h e.1.symm)]
theorem tm_put_same {a : Act} {d : Nat} (v : Value) (h : d < a.tmps.size) : tmOf (a.put (some d) v) d = v := by
  unfold tmOf
  rw [put_getD]
  rw [if_pos ⟨rfl, h⟩]

section
variable {Z : Base} {F F' : Nat → Prop} {N N' : Nm} {s : St} {a : Act} {R R' : World}
theorem Rel.put (h : Rel Z F N s a R) {d : Nat} (hd : d < s.n) (hW : Z.W d) {x : A} (y : Value) (hx : HS F N s.nx R (tmOf (a.put (some d) y)) x y) : Rel Z F N (s.put d x) (a.put (some d) y) R where
  defers := by rw [put_defers']; exact h.defers
  size := by rw [put_size]; exact h.size
  slots := fun u z hu => by
    unfold St.get St.put look at hu
    cases hk : Nat.beq d u with
    | true =>
      rw [hk] at hu
      obtain rfl : x = z := Option.some.inj hu
      obtain rfl : d = u := Nat.eq_of_beq_eq_true hk
      rw [tm_put_same y (by rw [h.size]; exact hd)]
      exact hx
    | false =>
      rw [hk] at hu
      have hne : u ≠ d := fun e => by subst e; simp at hk
      rw [tm_put_ne y hne]
      rcases look_kill hu with rfl | ⟨h1, h2⟩
      · exact (HS_plain rfl).2 (.dead _)
      · exact HS.congr (fun k hk' => tm_put_ne y hk') h2 (h.slots u z h1)
  hp := h.hp
  st := h.st
  tm := fun u hu => by rw [tm_put_ne y (fun e => hu (by rw [e]; exact hW))]; exact h.tm u hu
/-- The heap part goes on; the slots stay. -/
theorem Rel.heap (h : Rel Z F N s a R) {nx' : Nat} {o' : Objs} (st : Step F N s.nx s.o R F' N' nx' o' R') (hp : HRel F' N' nx' o' R') : Rel Z F' N' { s with nx := nx', o := o' } a R' :=
  ⟨h.defers, h.size, fun u x hu => (h.slots u x hu).step (st.ext h.hp), hp, h.st.trans st, h.tm⟩
theorem Rel.grow (h : Rel Z F N s a R) (hb : Below R.heap.size R R') : Rel Z F N s a R' := by
  obtain ⟨h1, h2⟩ := h.hp.grow hb
  exact ⟨h.defers, h.size, fun u x hu => (h.slots u x hu).step h2, h1, h.st.trans (Step.of_below hb), h.tm⟩
end

/-! ### naming -/
def setF {α : Type} (σ : Nat → α) (d : Nat) (m : α) : Nat → α := fun k => bif Nat.beq k d then m else σ k
theorem setF_same {α : Type} (σ : Nat → α) (d : Nat) (m : α) : setF σ d m d = m := by simp [setF]
theorem setF_ne {α : Type} (σ : Nat → α) {d k : Nat} (m : α) (h : k ≠ d) : setF σ d m k = σ k := by
  unfold setF
  cases hk : Nat.beq k d with
  | true => exact absurd (Nat.eq_of_beq_eq_true hk) h
  | false => rfl
def Nm.setB (N : Nm) (d m : Nat) : Nm := ⟨setF N.b d m, N.q⟩
def Nm.setQ (N : Nm) (k : Nat) (v : Value) : Nm := ⟨N.b, setF N.q k v⟩
theorem lookO_cons (k : Nat) (x : Option Ob) (l : Objs) (j : Nat) : lookO j ((k, x) :: l) = if j = k then x else lookO j l := by
  show (bif Nat.beq k j then x else lookO j l) = _
  by_cases h : j = k
  · subst h; simp
  · rw [if_neg h]
    have : Nat.beq k j = false := by
      cases hk : Nat.beq k j with
      | true => exact absurd (Nat.eq_of_beq_eq_true hk).symm h
      | false => rfl
    rw [this]
    rfl

/-! ### operations that do not touch the world -/
def pureRun {α : Type} (P : Program) : Sem α → Option α
  | .pure a => some a
  | .program k => pureRun P (k P)
  | _ => none
theorem pureRun_run {α : Type} {P : Program} : ∀ {s : Sem α} {x : α}, pureRun P s = some x → ∀ R, s.run P R = .ok x R
  | .pure a, x, h, R => by
    obtain rfl : a = x := Option.some.inj h
    rfl
  | .program k, x, h, R => by
    show (k P).run P R = _
    exact pureRun_run (s := k P) h R
  | .load _ _ _, _, h, _ => by cases h
  | .store _ _ _ _, _, h, _ => by cases h
  | .new _ _, _, h, _ => by cases h
  | .shape _ _, _, h, _ => by cases h
  | .freeze _ _ _, _, h, _ => by cases h
  | .frozen _ _, _, h, _ => by cases h
  | .getObj _ _, _, h, _ => by cases h
  | .setObj _ _ _, _, h, _ => by cases h
  | .choose _ _, _, h, _ => by cases h
  | .sys _ _, _, h, _ => by cases h
  | .mark _ _, _, h, _ => by cases h
  | .halt _, _, h, _ => by cases h

abbrev Guards := List (Nat × Bool)
def inG (u : Nat) (b : Bool) : Guards → Bool
  | [] => false
  | (k, c) :: r => bif Nat.beq k u then (bif beqB c b then true else inG u b r) else inG u b r
def GOk (tm : Nat → Value) (G : Guards) : Prop := ∀ u b, inG u b G = true → tm u = .bool b
def A.strip (G : Guards) : A → Option A
  | .opt u b x => bif inG u b G then x.strip G else none
  | .dead => none
  | x => some x
section
variable {F : Nat → Prop} {N : Nm} {nx : Nat} {R : World} {tm : Nat → Value} {G : Guards}
theorem strip_ok (hG : GOk tm G) : ∀ {x z : A} {y : Value}, x.strip G = some z → HS F N nx R tm x y → z.plain = true ∧ Hv F N nx R z y
  | .opt u b x, z, y, h, hh => by
    unfold A.strip at h
    cases hi : inG u b G with
    | false => rw [hi] at h; cases h
    | true =>
      rw [hi] at h
      simp only [HS] at hh
      exact strip_ok hG h (hh.1 (hG u b hi))
  | .v _, z, _, h, hh => by obtain rfl := Option.some.inj h; exact ⟨rfl, (HS_plain rfl).1 hh⟩
  | .sl _ _, z, _, h, hh => by obtain rfl := Option.some.inj h; exact ⟨rfl, (HS_plain rfl).1 hh⟩
  | .own _ _, z, _, h, hh => by obtain rfl := Option.some.inj h; exact ⟨rfl, (HS_plain rfl).1 hh⟩
  | .ownx _ _ _ _, z, _, h, hh => by obtain rfl := Option.some.inj h; exact ⟨rfl, (HS_plain rfl).1 hh⟩
  | .sq _, z, _, h, hh => by obtain rfl := Option.some.inj h; exact ⟨rfl, (HS_plain rfl).1 hh⟩
  | .vw _ _ _ _ _, z, _, h, hh => by obtain rfl := Option.some.inj h; exact ⟨rfl, (HS_plain rfl).1 hh⟩
  | .el _ _ _ _, z, _, h, hh => by obtain rfl := Option.some.inj h; exact ⟨rfl, (HS_plain rfl).1 hh⟩
  | .ref _, z, _, h, hh => by obtain rfl := Option.some.inj h; exact ⟨rfl, (HS_plain rfl).1 hh⟩
  | .mp _, z, _, h, hh => by obtain rfl := Option.some.inj h; exact ⟨rfl, (HS_plain rfl).1 hh⟩
  | .nl, z, _, h, hh => by obtain rfl := Option.some.inj h; exact ⟨rfl, (HS_plain rfl).1 hh⟩
  | .it _ _, z, _, h, hh => by obtain rfl := Option.some.inj h; exact ⟨rfl, (HS_plain rfl).1 hh⟩
  | .fn _ _ _, z, _, h, hh => by obtain rfl := Option.some.inj h; exact ⟨rfl, (HS_plain rfl).1 hh⟩
  | .agg _, z, _, h, hh => by obtain rfl := Option.some.inj h; exact ⟨rfl, (HS_plain rfl).1 hh⟩
  | .tup _, z, _, h, hh => by obtain rfl := Option.some.inj h; exact ⟨rfl, (HS_plain rfl).1 hh⟩
  | .dead, _, _, h, _ => by cases h
end

def St.ev (s : St) (G : Guards) : Operand → Option A
  | .tmp t => match s.get t with
    | some x => x.strip G
    | none => none
  | .const v => some (.v v)
  | .func f => some (.v (.func (.func f) #[] #[]))
  | .global _ => none

/-- What a call comes to: 0, 1: it only makes new things; its result; the next number; the objects; what must hold. -/
abbrev CRes := Nat × A × Nat × Objs × List Prop
abbrev Tab := FuncId → List A → Nat → Objs → Option CRes

def CallOk (P : Program) (f : FuncId) (args : List A) (nx : Nat) (o : Objs) (k : Nat) (x : A) (nx' : Nat) (o' : Objs) : Prop :=
  ∀ (F : Nat → Prop) (N : Nm) (R : World) (vs : List Value), HRel F N nx o R → HL F N nx R args vs →
    Calls P f vs.toArray R fun e R' => ∃ y F' N', e = .returned y ∧ HRel F' N' nx' o' R' ∧ Step F N nx o R F' N' nx' o' R' ∧ Hv F' N' nx' R' x y ∧ (k ≤ 1 → Below R.heap.size R R')

structure Env where
  P : Program
  eq : TypeId → List Value → List Value → Option Bool
  C : Tab
  lit : Bool
  tc : TypeId → Option TC
  L : Nat → St → Option (Code × List Prop × List (Option Nat × Option Bool × St))

structure EnvOk (E : Env) : Prop where
  suf : ∀ f args nx o k x nx' o' ps, E.C f args nx o = some (k, x, nx', o', ps) → ∃ d, o' = d ++ o
  wide : E.P.follows .mixedOrders = true
  eq : ∀ t xs ys b, E.eq t xs ys = some b → E.P.eqGuardType E.P.depth t = false ∧ ∀ R, (Op.equalIn 10000 t (.agg xs.toArray) (.agg ys.toArray)).run E.P R = .ok b R
  C : ∀ f args nx o k x nx' o' ps, E.C f args nx o = some (k, x, nx', o', ps) → (∀ p ∈ ps, p) → CallOk E.P f args nx o k x nx' o'
  tc : ∀ t c, E.tc t = some c → ∃ i, E.P.info? t = some i ∧ i.size = size c ∧ 0 < size c ∧ ∃ z, i.zero = some z ∧ ∀ (F : Nat → Prop) (N : Nm) (nx : Nat) (R : World), HL F N nx R (enc c (dflt c)) z.cells.toList

/-- A value that is plain. -/
def rawA : A → Option Value
  | .v x => some x
  | .agg xs => match rawL xs with
    | some l => some (.agg l.toArray)
    | none => none
  | _ => none
theorem rawA_ok {F : Nat → Prop} {N : Nm} {nx : Nat} {R : World} {x : A} {y u : Value} (h : rawA x = some u) (hh : Hv F N nx R x y) : y = u := by
  cases x <;> first | (cases h; done) | skip
  · cases h; exact hh.v_inv
  · rename_i xs
    have h' : (match rawL xs with | some l => some (Value.agg l.toArray) | none => none) = some u := h
    split at h' <;> first | (cases h'; done) | skip
    rename_i l hl
    cases h'
    obtain ⟨vs, rfl, h2⟩ := hh.agg_inv
    rw [rawL_ok hl h2]

section
variable {E : Env} {Z : Base} {F : Nat → Prop} {N : Nm} {s : St} {a : Act} {R : World} {G : Guards}
theorem ev_ok (h : Rel Z F N s a R) (hG : GOk (tmOf a) G) {o : Operand} {z : A} (ho : s.ev G o = some z) : z.plain = true ∧ Hv F N s.nx R z (a.eval o) := by
  cases o with
  | tmp t =>
    unfold St.ev at ho
    cases hg : s.get t with
    | none => simp only [hg] at ho; cases ho
    | some x =>
      simp only [hg] at ho
      exact strip_ok hG ho (h.slots t x hg)
  | const v => obtain rfl := Option.some.inj ho; exact ⟨rfl, Hv.v _⟩
  | global g => cases ho
  | func f => obtain rfl := Option.some.inj ho; exact ⟨rfl, Hv.v _⟩
def St.raw (s : St) (G : Guards) (o : Operand) : Option Value := match s.ev G o with
  | some x => rawA x
  | none => none
theorem raw_ok (h : Rel Z F N s a R) (hG : GOk (tmOf a) G) {o : Operand} {y : Value} (ho : s.raw G o = some y) : a.eval o = y := by
  unfold St.raw at ho
  cases he : s.ev G o with
  | none => rw [he] at ho; cases ho
  | some z =>
    rw [he] at ho
    exact rawA_ok ho (ev_ok h hG he).2
def rho (s : St) (G : Guards) (o : Operand) : Value := match s.raw G o with
  | some y => y
  | none => undef
def allRaw (s : St) (G : Guards) : List Operand → Bool
  | [] => true
  | o :: r => match s.raw G o with
    | some _ => allRaw s G r
    | none => false
theorem allRaw_ok : ∀ {l : List Operand}, allRaw s G l = true → ∀ o ∈ l, ∃ y, s.raw G o = some y
  | [], _, o, ho => by cases ho
  | x :: r, h, o, ho => by
    unfold allRaw at h
    cases hx : s.raw G x with
    | none => simp only [hx] at h; cases h
    | some y =>
      simp only [hx] at h
      rcases List.mem_cons.1 ho with rfl | ho
      · exact ⟨y, hx⟩
      · exact allRaw_ok h o ho

def noSel (o : Op) : Bool := match o with | .select .. => false | _ => true

def pureE (P : Program) (s : St) (G : Guards) (o : Oper) : Option Value :=
  bif allRaw s G o.op.operands.toList then
    bif noSel o.op then match pureRun P (execOp (rho s G) o) with
      | some (.value y) => some y
      | _ => none
    else none
  else none

theorem congr_rho (h : Rel Z F N s a R) (hG : GOk (tmOf a) G) {o : Oper} (hr : allRaw s G o.op.operands.toList = true) (hn : noSel o.op = true) : execOp a.eval o = execOp (rho s G) o := by
  refine execOp_congr o (fun cs b he => by rw [he] at hn; cases hn) fun x hx => ?_
  obtain ⟨y, hy⟩ := allRaw_ok hr x (by simpa using hx)
  rw [raw_ok h hG hy]
  unfold rho
  rw [hy]

theorem pureE_any (h : Rel Z F N s a R) (hG : GOk (tmOf a) G) {o : Oper} {y : Value} (he : pureE E.P s G o = some y) (R' : World) : (execOp a.eval o).run E.P R' = .ok (.value y) R' := by
  unfold pureE at he
  cases hr : allRaw s G o.op.operands.toList with
  | false => rw [hr] at he; cases he
  | true =>
    cases hn : noSel o.op with
    | false => rw [hr, hn] at he; cases he
    | true =>
      rw [hr, hn] at he
      simp only [cond_true] at he
      rw [congr_rho h hG hr hn]
      cases hp : pureRun E.P (execOp (rho s G) o) with
      | none => rw [hp] at he; cases he
      | some z =>
        rw [hp] at he
        cases z <;> first | cases he | skip
        exact pureRun_run hp R'
end

/-! ### choice -/
def mergeL (f : Value → Value → Option Value) : List Value → List Value → Option (List Value)
  | [], [] => some []
  | x :: xs, y :: ys => match f x y with
    | some z => match mergeL f xs ys with
      | some zs => some (z :: zs)
      | none => none
    | none => none
  | _, _ => none
def kindB : IntKind → IntKind → Bool
  | .i64, .i64 => true
  | .u8, .u8 => true
  | .u64, .u64 => true
  | .i32, .i32 => true
  | .u32, .u32 => true
  | _, _ => false
def mergeV : Nat → Bool → Value → Value → Option Value
  | _, q, .bool x, .bool y => some (.bool (bif q then x else y))
  | _, q, .int k x, .int k' y => bif kindB k k' then some (.int k (bif q then x else y)) else none
  | _, q, .string x, .string y => some (.string (bif q then x else y))
  | _, q, .slice A n c, .slice A' n' c' => some (.slice (bif q then A else A') (bif q then n else n') (bif q then c else c'))
  | d + 1, q, .agg xs, .agg ys => match mergeL (mergeV d q) xs.toList ys.toList with
    | some zs => some (.agg zs.toArray)
    | none => none
  | d + 1, q, .tuple xs, .tuple ys => match mergeL (mergeV d q) xs.toList ys.toList with
    | some zs => some (.tuple zs.toArray)
    | none => none
  | _, _, _, _ => none
theorem kindB_eq {k k' : IntKind} (h : kindB k k' = true) : k = k' := by cases k <;> cases k' <;> first | rfl | cases h
theorem mergeL_ok {f : Value → Value → Option Value} {q : Bool} (hf : ∀ x y z, f x y = some z → z = bif q then x else y) : ∀ {xs ys zs : List Value}, mergeL f xs ys = some zs → zs = bif q then xs else ys
  | [], [], zs, h => by
    obtain rfl := Option.some.inj h
    cases q <;> rfl
  | [], _ :: _, _, h => by cases h
  | _ :: _, [], _, h => by cases h
  | x :: xs, y :: ys, zs, h => by
    unfold mergeL at h
    cases h1 : f x y with
    | none => simp only [h1] at h; cases h
    | some z =>
      cases h2 : mergeL f xs ys with
      | none => simp only [h1, h2] at h; cases h
      | some zs' =>
        simp only [h1, h2] at h
        obtain rfl := Option.some.inj h
        have e1 := hf x y z h1
        have e2 := mergeL_ok hf h2
        rw [e1, e2]
        cases q <;> rfl
theorem mergeV_ok : ∀ {d : Nat} {q : Bool} {x y z : Value}, mergeV d q x y = some z → z = bif q then x else y
  | d, q, x, y, z, h => by
    cases x <;> cases y <;> first | (cases d <;> (unfold mergeV at h; cases h); done) | skip
    case bool.bool a b => unfold mergeV at h; cases h; cases q <;> rfl
    case int.int k a k' b =>
      unfold mergeV at h
      cases hk : kindB k k' with
      | false => rw [hk] at h; cases h
      | true =>
        rw [hk] at h
        obtain rfl := kindB_eq hk
        cases h
        cases q <;> rfl
    case string.string a b => unfold mergeV at h; cases h; cases q <;> rfl
    case slice.slice A n c A' n' c' => unfold mergeV at h; cases h; cases q <;> rfl
    case agg.agg xs ys =>
      cases d with
      | zero => unfold mergeV at h; cases h
      | succ d =>
        unfold mergeV at h
        cases hm : mergeL (mergeV d q) xs.toList ys.toList with
        | none => simp only [hm] at h; cases h
        | some zs =>
          simp only [hm] at h
          obtain rfl := Option.some.inj h
          rw [mergeL_ok (fun x y z hz => mergeV_ok hz) hm]
          cases q <;> rfl
    case tuple.tuple xs ys =>
      cases d with
      | zero => unfold mergeV at h; cases h
      | succ d =>
        unfold mergeV at h
        cases hm : mergeL (mergeV d q) xs.toList ys.toList with
        | none => simp only [hm] at h; cases h
        | some zs =>
          simp only [hm] at h
          obtain rfl := Option.some.inj h
          rw [mergeL_ok (fun x y z hz => mergeV_ok hz) hm]
          cases q <;> rfl

def isNilV : Value → Bool
  | .slice none 0 0 => true
  | _ => false
def mergeLs (f : A → A → A) (g : Bool) : List A → List A → List A
  | x :: xs, y :: ys => f x y :: mergeLs f g xs ys
  | [], [] => []
  | xs, ys => bif g then xs else ys
def mergeSl (g : Bool) (c : TC) (l : List (U c)) (c' : TC) (l' : List (U c')) : A := match TC.same c' c with
  | some h => .sl c (bif g then l else castL h.down l')
  | none => .dead
def mergeA : Nat → Bool → A → A → A
  | 0, _, _, _ => .dead
  | d + 1, g, x, y => match x, y with
    | .v x, .v y => match mergeV 2 g x y with
      | some z => .v z
      | none => .dead
    | .v x, .sl c l => bif isNilV x then .sl c (bif g then [] else l) else .dead
    | .sl c l, .v x => bif isNilV x then .sl c (bif g then l else []) else .dead
    | .sl c l, .sl c' l' => mergeSl g c l c' l'
    | .sl c l, .nl => .sl c (bif g then l else [])
    | .nl, .sl c l => .sl c (bif g then [] else l)
    | .nl, .nl => .nl
    | .nl, .v x => bif isNilV x then .nl else .dead
    | .v x, .nl => bif isNilV x then .nl else .dead
    | .own i o, .own j p => bif Nat.beq i j then (bif Nat.beq o p then .own i o else .dead) else .dead
    | .sq i, .sq j => bif Nat.beq i j then .sq i else .dead
    | .mp i, .mp j => bif Nat.beq i j then .mp i else .dead
    | .agg xs, .agg ys => aggA (mergeLs (mergeA d g) g xs ys)
    | .tup xs, .tup ys => .tup (mergeLs (mergeA d g) g xs ys)
    | .fn f xs us, .fn h ys ws => bif Nat.beq f h then .fn f (mergeLs (mergeA d g) g xs ys) (mergeLs (mergeA d g) g us ws) else .dead
    | .ref l, .ref l' => .ref (mergeLs (mergeA d g) g l l')
    | _, _ => .dead
/-- An aggregate, part by part. -/
def spread : A → A
  | .v (.agg xs) => .agg (toL xs.toList)
  | .v (.tuple xs) => .tup (toL xs.toList)
  | .v (.func (.func f) xs us) => .fn f (toL xs.toList) (toL us.toList)
  | x => x
def isMix : A → A → Bool
  | .agg _, .v _ => true
  | .v _, .agg _ => true
  | .tup _, .v _ => true
  | .v _, .tup _ => true
  | .fn _ _ _, .v _ => true
  | .v _, .fn _ _ _ => true
  | .v (.func _ _ _), .v (.func _ _ _) => true
  | _, _ => false
def mergeT (g : Bool) (x y : A) : A := bif isMix x y then mergeA 4 g (spread x) (spread y) else mergeA 4 g x y

section
variable {F : Nat → Prop} {N : Nm} {nx : Nat} {R : World} {g : Bool}
theorem aggA_ok {cs : List A} {vs : List Value} (h : HL F N nx R cs vs) : Hv F N nx R (aggA cs) (.agg vs.toArray) := by
  unfold aggA
  split
  · rename_i xs hx
    rw [rawL_ok hx h]
    exact Hv.v _
  · exact Hv.of_agg h
theorem mergeLs_ok {f : A → A → A} (hf : ∀ {x y v}, Hv F N nx R (bif g then x else y) v → Hv F N nx R (f x y) v) : ∀ {xs ys : List A} {vs : List Value}, HL F N nx R (bif g then xs else ys) vs → HL F N nx R (mergeLs f g xs ys) vs
  | [], [], _, h => by unfold mergeLs; cases g <;> exact h
  | [], _ :: _, _, h => by unfold mergeLs; exact h
  | _ :: _, [], _, h => by unfold mergeLs; exact h
  | x :: xs, y :: ys, vs, h => by
    unfold mergeLs
    have h' : HL F N nx R ((bif g then x else y) :: (bif g then xs else ys)) vs := by cases g <;> exact h
    obtain ⟨v, us, rfl, h2, h3⟩ := h'.inv
    exact HL.cons (hf h2) (mergeLs_ok hf h3)
theorem HC.cons {x : A} {r : List A} {ad : Addr} : HC F N nx R (x :: r) ad ↔ (∃ y, R.cell? ad = some y ∧ Hv F N nx R x y) ∧ HC F N nx R r (ad.add 1) := by
  constructor
  · intro h
    refine ⟨by have := h 0 x rfl; rwa [add_zero] at this, fun j y hy => ?_⟩
    have := h (j + 1) y hy
    rw [add_add, Nat.add_comm 1 j]
    exact this
  · intro ⟨h1, h2⟩ j y hy
    cases j with
    | zero => cases hy; rw [add_zero]; exact h1
    | succ j =>
      have := h2 j y hy
      rw [add_add, Nat.add_comm 1 j] at this
      exact this
theorem HC.nil {ad : Addr} : HC F N nx R [] ad := fun j x h => by cases j <;> cases h
theorem mergeLs_okC {f : A → A → A} (hf : ∀ {x y v}, Hv F N nx R (bif g then x else y) v → Hv F N nx R (f x y) v) : ∀ {xs ys : List A} {ad : Addr}, HC F N nx R (bif g then xs else ys) ad → HC F N nx R (mergeLs f g xs ys) ad
  | [], [], _, h => by unfold mergeLs; cases g <;> exact h
  | [], _ :: _, _, h => by unfold mergeLs; exact h
  | _ :: _, [], _, h => by unfold mergeLs; exact h
  | x :: xs, y :: ys, ad, h => by
    unfold mergeLs
    have h' : HC F N nx R ((bif g then x else y) :: (bif g then xs else ys)) ad := by cases g <;> exact h
    obtain ⟨⟨u, h1, h2⟩, h3⟩ := HC.cons.1 h'
    exact HC.cons.2 ⟨⟨u, h1, hf h2⟩, mergeLs_okC hf h3⟩
theorem isNilV_ok {x : Value} (h : isNilV x = true) : x = .slice none 0 0 := by
  unfold isNilV at h
  split at h
  · rfl
  · cases h
theorem mergeSl_ok {c c' : TC} {l : List (U c)} {l' : List (U c')} {v : Value} (h : Hv F N nx R (bif g then .sl c l else .sl c' l') v) : Hv F N nx R (mergeSl g c l c' l') v := by
  unfold mergeSl
  split
  · rename_i h1 _
    obtain ⟨h1⟩ := h1
    subst h1
    cases g <;> exact h
  · exact .dead _
theorem mergeA_ok : ∀ (d : Nat) {x y : A} {v : Value}, Hv F N nx R (bif g then x else y) v → Hv F N nx R (mergeA d g x y) v
  | 0, _, _, _, _ => .dead _
  | d + 1, x, y, v, h => by
    have ih : ∀ {x y v}, Hv F N nx R (bif g then x else y) v → Hv F N nx R (mergeA d g x y) v := fun h => mergeA_ok d h
    unfold mergeA
    split
    · rename_i x y
      split
      · rename_i z hz
        rw [mergeV_ok hz]
        cases g <;> exact h
      · exact .dead _
    · rename_i x c l
      cases hx : isNilV x with
      | false => exact .dead _
      | true =>
        obtain rfl := isNilV_ok hx
        cases g with
        | false => exact h
        | true => exact Hv.sl_nil h.v_inv
    · rename_i c l x
      cases hx : isNilV x with
      | false => exact .dead _
      | true =>
        obtain rfl := isNilV_ok hx
        cases g with
        | true => exact h
        | false => exact Hv.sl_nil h.v_inv
    · exact mergeSl_ok h
    · cases g with
      | true => exact h
      | false => obtain ⟨a, e⟩ := h.nl_inv; exact Hv.sl_nil e
    · cases g with
      | false => exact h
      | true => obtain ⟨a, e⟩ := h.nl_inv; exact Hv.sl_nil e
    · cases g <;> exact h
    · rename_i x
      cases hx : isNilV x with
      | false => exact .dead _
      | true =>
        obtain rfl := isNilV_ok hx
        cases g with
        | true => exact h
        | false => rw [h.v_inv]; exact .nl _
    · rename_i x
      cases hx : isNilV x with
      | false => exact .dead _
      | true =>
        obtain rfl := isNilV_ok hx
        cases g with
        | false => exact h
        | true => rw [h.v_inv]; exact .nl _
    · rename_i i o j p
      cases h1 : Nat.beq i j with
      | false => exact .dead _
      | true =>
        cases h2 : Nat.beq o p with
        | false => exact .dead _
        | true =>
          obtain rfl := Nat.eq_of_beq_eq_true h1
          obtain rfl := Nat.eq_of_beq_eq_true h2
          cases g <;> exact h
    · rename_i i j
      cases h1 : Nat.beq i j with
      | false => exact .dead _
      | true =>
        obtain rfl := Nat.eq_of_beq_eq_true h1
        cases g <;> exact h
    · rename_i i j
      cases h1 : Nat.beq i j with
      | false => exact .dead _
      | true =>
        obtain rfl := Nat.eq_of_beq_eq_true h1
        cases g <;> exact h
    · rename_i xs ys
      have h' : Hv F N nx R (.agg (bif g then xs else ys)) v := by cases g <;> exact h
      obtain ⟨vs, rfl, h2⟩ := h'.agg_inv
      exact aggA_ok (mergeLs_ok ih h2)
    · rename_i xs ys
      have h' : Hv F N nx R (.tup (bif g then xs else ys)) v := by cases g <;> exact h
      obtain ⟨vs, rfl, h2⟩ := h'.tup_inv
      exact Hv.of_tup (mergeLs_ok ih h2)
    · rename_i f xs us h0 ys ws
      cases h1 : Nat.beq f h0 with
      | false => exact .dead _
      | true =>
        obtain rfl := Nat.eq_of_beq_eq_true h1
        have h' : Hv F N nx R (.fn f (bif g then xs else ys) (bif g then us else ws)) v := by cases g <;> exact h
        obtain ⟨vs, ks, rfl, h2, h3⟩ := h'.fn_inv
        exact Hv.of_fn (mergeLs_ok ih h2) (mergeLs_ok ih h3)
    · rename_i l l'
      have h' : Hv F N nx R (.ref (bif g then l else l')) v := by cases g <;> exact h
      obtain ⟨ad, rfl, h2, h3⟩ := h'.ref_inv
      exact Hv.of_ref h2 (mergeLs_okC ih h3)
    · exact .dead _
theorem spread_ok {x : A} {v : Value} (h : Hv F N nx R x v) : Hv F N nx R (spread x) v := by
  unfold spread
  split
  · rename_i xs
    rw [h.v_inv]
    have := Hv.of_agg (HL.toL (F := F) (N := N) (nx := nx) (R := R) xs.toList)
    simpa using this
  · rename_i xs
    rw [h.v_inv]
    have := Hv.of_tup (HL.toL (F := F) (N := N) (nx := nx) (R := R) xs.toList)
    simpa using this
  · rename_i f xs us
    rw [h.v_inv]
    have := Hv.of_fn (f := f) (HL.toL (F := F) (N := N) (nx := nx) (R := R) xs.toList) (HL.toL (F := F) (N := N) (nx := nx) (R := R) us.toList)
    simpa using this
  · exact h
theorem mergeT_ok {x y : A} {v : Value} (h : Hv F N nx R (bif g then x else y) v) : Hv F N nx R (mergeT g x y) v := by
  unfold mergeT
  cases isMix x y with
  | false => exact mergeA_ok 4 h
  | true => exact mergeA_ok 4 (by cases g <;> exact spread_ok h)
end

def guardOf (b : Bool) : Operand → Guards → Guards
  | .tmp u, G => (u, b) :: G
  | _, G => G
theorem guardOf_ok {a : Act} {G : Guards} {b : Bool} {c : Operand} (hG : GOk (tmOf a) G) (hc : a.eval c = .bool b) : GOk (tmOf a) (guardOf b c G) := by
  cases c <;> first | exact hG | skip
  rename_i u
  intro k d hk
  unfold guardOf inG at hk
  cases hu : Nat.beq u k with
  | false => rw [hu] at hk; exact hG k d hk
  | true =>
    rw [hu] at hk
    simp only [cond_true] at hk
    obtain rfl := Nat.eq_of_beq_eq_true hu
    cases hb : beqB b d with
    | false => rw [hb] at hk; exact hG _ d hk
    | true => obtain rfl := beqB_eq hb; exact hc

def constB : Operand → Option Bool
  | .const (.bool b) => some b
  | _ => none
/-- 'pick c a b' -/
def pickE (s : St) (G : Guards) (c x y : Operand) : Option A :=
  match s.raw G c with
  | some (.bool q) => match s.ev (guardOf true c G) x, s.ev (guardOf false c G) y with
    | some x', some y' => match constB x, constB y, x', y' with
      | some true, _, _, .v (.bool p) => some (.v (.bool (q || p)))
      | _, some false, .v (.bool p), _ => some (.v (.bool (q && p)))
      | _, _, _, _ => some (mergeT q x' y')
    | _, _ => none
  | _ => none
theorem ev_const {s : St} {G : Guards} {x : Operand} {b : Bool} {v : A} (h : constB x = some b) (hr : s.ev G x = some v) : v = .v (.bool b) := by
  match x, h with
  | .const (.bool c), h' =>
    obtain rfl : c = b := Option.some.inj h'
    exact (Option.some.inj hr).symm
theorem pickE_ok {Z : Base} {F : Nat → Prop} {N : Nm} {s : St} {a : Act} {R : World} {G : Guards} (h : Rel Z F N s a R) (hG : GOk (tmOf a) G) {c x y : Operand} {z : A} (he : pickE s G c x y = some z) :
    ∃ q, a.eval c = .bool q ∧ Hv F N s.nx R z (if q then a.eval x else a.eval y) := by
  unfold pickE at he
  cases hc : s.raw G c with
  | none => simp only [hc] at he; cases he
  | some cv =>
    cases cv <;> first | (simp only [hc] at he; cases he; done) | skip
    rename_i q
    have hq := raw_ok h hG hc
    refine ⟨q, hq, ?_⟩
    simp only [hc] at he
    cases hx : s.ev (guardOf true c G) x with
    | none => simp only [hx] at he; cases he
    | some x' =>
      cases hy : s.ev (guardOf false c G) y with
      | none => simp only [hx, hy] at he; cases he
      | some y' =>
        simp only [hx, hy] at he
        have hv : Hv F N s.nx R (bif q then x' else y') (if q then a.eval x else a.eval y) := by
          cases q with
          | true => exact (ev_ok h (guardOf_ok hG hq) hx).2
          | false => exact (ev_ok h (guardOf_ok hG hq) hy).2
        split at he
        · rename_i h1
          have := ev_const h1 hx
          subst this
          obtain rfl := Option.some.inj he
          cases q <;> exact hv
        · rename_i h1 _
          have := ev_const h1 hy
          subst this
          obtain rfl := Option.some.inj he
          cases q <;> first | (simp only [Bool.false_and]; exact hv) | (simp only [Bool.true_and]; exact hv)
        · obtain rfl := Option.some.inj he
          exact mergeT_ok hv
end Go.Proofs.Yteebobbhhgmeiaa
