/- A symbolic run with sequences, part B: pure operations, choice. -/
import Derived.Test.YteebobbhhgmeiaaSyA
import Derived.Test.YteebobbhhgmeiaaMax
namespace Go.Proofs.Yteebobbhhgmeiaa
open Go.RowKit

/-! ### operations that do not touch the world -/
def pureRun {α : Type} (P : Program) : Sem α → Option α
  | .pure a => some a
  | .program k => pureRun P (k P)
  | _ => none
theorem pureRun_run {α : Type} {P : Program} : ∀ {s : Sem α} {x : α}, pureRun P s = some x → ∀ R, s.run P R = .ok x R
  | .pure a, x, h, R => by
    obtain rfl : a = x := Option.some.inj h
    rfl
  | .program k, x, h, R => by
    show (k P).run P R = _
    exact pureRun_run (s := k P) h R
  | .load _ _ _, _, h, _ => by cases h
  | .store _ _ _ _, _, h, _ => by cases h
  | .new _ _, _, h, _ => by cases h
  | .shape _ _, _, h, _ => by cases h
  | .freeze _ _ _, _, h, _ => by cases h
  | .frozen _ _, _, h, _ => by cases h
  | .getObj _ _, _, h, _ => by cases h
  | .setObj _ _ _, _, h, _ => by cases h
  | .choose _ _, _, h, _ => by cases h
  | .sys _ _, _, h, _ => by cases h
  | .mark _ _, _, h, _ => by cases h
  | .halt _, _, h, _ => by cases h

abbrev Guards := List (Nat × Bool)
def inG (u : Nat) (b : Bool) : Guards → Bool
  | [] => false
  | (k, c) :: r => bif Nat.beq k u then (bif beqB c b then true else inG u b r) else inG u b r
def GOk (tm : Nat → Value) (G : Guards) : Prop := ∀ u b, inG u b G = true → tm u = .bool b
def AV.strip (G : Guards) : AV → Option AV
  | .opt u b x => bif inG u b G then x.strip G else none
  | .dead => none
  | x => some x
theorem strip_ok {N : Nm} {tm : Nat → Value} {G : Guards} (hG : GOk tm G) : ∀ {x z : AV} {y : Value}, x.strip G = some z → Holds N tm x y → z.simple = true ∧ y = conc N z
  | .v _, z, _, h, hh => by obtain rfl := Option.some.inj h; exact hh
  | .own _ _, z, _, h, hh => by obtain rfl := Option.some.inj h; exact hh
  | .ownx _ _ _ _, z, _, h, hh => by obtain rfl := Option.some.inj h; exact hh
  | .osl _ _ _, z, _, h, hh => by obtain rfl := Option.some.inj h; exact hh
  | .sq _, z, _, h, hh => by obtain rfl := Option.some.inj h; exact hh
  | .el _ _, z, _, h, hh => by obtain rfl := Option.some.inj h; exact hh
  | .agg _, z, _, h, hh => by obtain rfl := Option.some.inj h; exact hh
  | .tup _, z, _, h, hh => by obtain rfl := Option.some.inj h; exact hh
  | .dead, _, _, h, _ => by cases h
  | .opt u b x, z, y, h, hh => by
    unfold AV.strip at h
    cases hi : inG u b G with
    | false => rw [hi] at h; cases h
    | true =>
      rw [hi] at h
      exact strip_ok hG h (hh.1 (hG u b hi))

def St.ev (s : St) (G : Guards) : Operand → Option AV
  | .tmp t => match s.get t with
    | some x => x.strip G
    | none => none
  | .const v => some (.v v)
  | .func f => some (.v (.func (.func f) #[] #[]))
  | .global _ => none

/-- What a call comes to: its result over new sequences, these, and what must hold. -/
abbrev CRes := AV × List Sq × List Prop
structure Env where
  P : Program
  w0 : World
  eq : TypeId → List Value → List Value → Option Bool
  C : FuncId → List AV → Boxes → Seqs → Option CRes

/-- New sequences lie in new memory, apart from one another. -/
structure NewOk (base : Nat) (R' : World) (v : Nat → Value) (z : Nat → List Value) (news : List Sq) : Prop where
  seq : ∀ j q, news[j]? = some q → SeqR base R' (v j) (z j) q
  new : ∀ j q g, news[j]? = some q → Touch (v j) (z j) q g → base ≤ g
  sep : ∀ j q g, news[j]? = some q → q.own = true → blkOf (v j) = some g → (∀ j' q', j' ≠ j → news[j']? = some q' → ¬ Touch (v j') (z j') q' g) ∧ (∀ K i v', q.kid = some K → i < q.n → (z j)[i * q.size + K.at_]? = some v' → 0 < K.n i → blkOf v' ≠ some g)

def CallOk (w0 : World) (P : Program) (f : FuncId) (args : List AV) (bx : Boxes) (sq : Seqs) (c : AV) (news : List Sq) : Prop :=
  ∀ (N : Nm) (R : World), Below w0.heap.size w0 R → (∀ i e cs, lookB i bx = some (e, cs) → ∃ vs, CellsAre N cs vs ∧ R.heap[N.b i]? = some (.cells vs.toArray e (0, 0))) → (∀ k q, lookQ k sq = some q → ∃ base, SeqR base R (N.q k) (N.z k) q) →
    Calls P f (args.map (conc N)).toArray R fun e R' => ∃ v z, e = .returned (conc ⟨N.b, v, z⟩ c) ∧ Below R.heap.size R R' ∧ NewOk R.heap.size R' v z news

structure EnvOk (E : Env) (B : World) : Prop where
  far : Below E.w0.heap.size E.w0 B
  wide : E.P.follows .mixedOrders = true
  eq : ∀ t xs ys b, E.eq t xs ys = some b → E.P.eqGuardType E.P.depth t = false ∧ ∀ R, (Op.equalIn 10000 t (.agg xs.toArray) (.agg ys.toArray)).run E.P R = .ok b R
  C : ∀ f args bx sq c news ps, E.C f args bx sq = some (c, news, ps) → (∀ p ∈ ps, p) → CallOk E.w0 E.P f args bx sq c news

theorem EnvOk.bel {E : Env} {B : World} (ok : EnvOk E B) {R : World} (h : Below B.heap.size B R) : Below E.w0.heap.size E.w0 R := ok.far.trans (h.mono ok.far.size)
abbrev RelE (_E : Env) (B : World) := Rel B

section
variable {E : Env} {B : World} {N : Nm} {s : St} {a : Act} {R : World} {G : Guards}

theorem ev_ok (h : RelE E B N s a R) (hG : GOk (tmOf a) G) {o : Operand} {z : AV} (ho : s.ev G o = some z) : z.simple = true ∧ a.eval o = conc N z := by
  cases o with
  | tmp t =>
    unfold St.ev at ho
    cases hg : s.get t with
    | none => simp only [hg] at ho; cases ho
    | some x =>
      simp only [hg] at ho
      exact strip_ok hG ho (h.slots t x hg)
  | const v => obtain rfl := Option.some.inj ho; exact ⟨rfl, rfl⟩
  | global g => cases ho
  | func f => obtain rfl := Option.some.inj ho; exact ⟨rfl, rfl⟩

def rawV : Option AV → Option Value
  | some (.v x) => some x
  | _ => none
def St.raw (s : St) (G : Guards) (o : Operand) : Option Value := rawV (s.ev G o)
theorem raw_ok (h : RelE E B N s a R) (hG : GOk (tmOf a) G) {o : Operand} {y : Value} (ho : s.raw G o = some y) : a.eval o = y := by
  unfold St.raw at ho
  cases he : s.ev G o with
  | none => rw [he] at ho; cases ho
  | some z =>
    rw [he] at ho
    obtain ⟨_, h2⟩ := ev_ok h hG he
    rw [h2]
    cases z <;> first | (cases ho; rfl) | cases ho

def rho (s : St) (G : Guards) (o : Operand) : Value := match s.raw G o with
  | some y => y
  | none => undef
def allRaw (s : St) (G : Guards) : List Operand → Bool
  | [] => true
  | o :: r => match s.raw G o with
    | some _ => allRaw s G r
    | none => false
theorem allRaw_ok : ∀ {l : List Operand}, allRaw s G l = true → ∀ o ∈ l, ∃ y, s.raw G o = some y
  | [], _, o, ho => by cases ho
  | x :: r, h, o, ho => by
    unfold allRaw at h
    cases hx : s.raw G x with
    | none => simp only [hx] at h; cases h
    | some y =>
      simp only [hx] at h
      rcases List.mem_cons.1 ho with rfl | ho
      · exact ⟨y, hx⟩
      · exact allRaw_ok h o ho

def noSel (o : Op) : Bool := match o with | .select .. => false | _ => true

def pureE (P : Program) (s : St) (G : Guards) (o : Oper) : Option Value :=
  bif allRaw s G o.op.operands.toList then
    bif noSel o.op then match pureRun P (execOp (rho s G) o) with
      | some (.value y) => some y
      | _ => none
    else none
  else none

theorem congr_rho (h : RelE E B N s a R) (hG : GOk (tmOf a) G) {o : Oper} (hr : allRaw s G o.op.operands.toList = true) (hn : noSel o.op = true) : execOp a.eval o = execOp (rho s G) o := by
  refine execOp_congr o (fun cs b he => by rw [he] at hn; cases hn) fun x hx => ?_
  obtain ⟨y, hy⟩ := allRaw_ok hr x (by simpa using hx)
  rw [raw_ok h hG hy]
  unfold rho
  rw [hy]

theorem pureE_ok (h : RelE E B N s a R) (hG : GOk (tmOf a) G) {o : Oper} {y : Value} (he : pureE E.P s G o = some y) : (execOp a.eval o).run E.P R = .ok (.value y) R := by
  unfold pureE at he
  cases hr : allRaw s G o.op.operands.toList with
  | false => rw [hr] at he; cases he
  | true =>
    cases hn : noSel o.op with
    | false => rw [hr, hn] at he; cases he
    | true =>
      rw [hr, hn] at he
      simp only [cond_true] at he
      rw [congr_rho h hG hr hn]
      cases hp : pureRun E.P (execOp (rho s G) o) with
      | none => rw [hp] at he; cases he
      | some z =>
        rw [hp] at he
        cases z <;> first | cases he | skip
        exact pureRun_run hp R
end

/-! ### choice -/
def mergeL (f : Value → Value → Option Value) : List Value → List Value → Option (List Value)
  | [], [] => some []
  | x :: xs, y :: ys => match f x y with
    | some z => match mergeL f xs ys with
      | some zs => some (z :: zs)
      | none => none
    | none => none
  | _, _ => none
def kindB : IntKind → IntKind → Bool
  | .i64, .i64 => true
  | .u8, .u8 => true
  | .u64, .u64 => true
  | .i32, .i32 => true
  | .u32, .u32 => true
  | _, _ => false
def mergeV : Nat → Bool → Value → Value → Option Value
  | _, q, .bool x, .bool y => some (.bool (bif q then x else y))
  | _, q, .int k x, .int k' y => bif kindB k k' then some (.int k (bif q then x else y)) else none
  | _, q, .string x, .string y => some (.string (bif q then x else y))
  | _, q, .slice A n c, .slice A' n' c' => some (.slice (bif q then A else A') (bif q then n else n') (bif q then c else c'))
  | d + 1, q, .agg xs, .agg ys => match mergeL (mergeV d q) xs.toList ys.toList with
    | some zs => some (.agg zs.toArray)
    | none => none
  | d + 1, q, .tuple xs, .tuple ys => match mergeL (mergeV d q) xs.toList ys.toList with
    | some zs => some (.tuple zs.toArray)
    | none => none
  | _, _, _, _ => none
theorem kindB_eq {k k' : IntKind} (h : kindB k k' = true) : k = k' := by cases k <;> cases k' <;> first | rfl | cases h
theorem mergeL_ok {f : Value → Value → Option Value} {q : Bool} (hf : ∀ x y z, f x y = some z → z = bif q then x else y) : ∀ {xs ys zs : List Value}, mergeL f xs ys = some zs → zs = bif q then xs else ys
  | [], [], zs, h => by
    obtain rfl := Option.some.inj h
    cases q <;> rfl
  | [], _ :: _, _, h => by cases h
  | _ :: _, [], _, h => by cases h
  | x :: xs, y :: ys, zs, h => by
    unfold mergeL at h
    cases h1 : f x y with
    | none => simp only [h1] at h; cases h
    | some z =>
      cases h2 : mergeL f xs ys with
      | none => simp only [h1, h2] at h; cases h
      | some zs' =>
        simp only [h1, h2] at h
        obtain rfl := Option.some.inj h
        have e1 := hf x y z h1
        have e2 := mergeL_ok hf h2
        rw [e1, e2]
        cases q <;> rfl
theorem mergeV_ok : ∀ {d : Nat} {q : Bool} {x y z : Value}, mergeV d q x y = some z → z = bif q then x else y
  | d, q, x, y, z, h => by
    cases x <;> cases y <;> first | (cases d <;> (unfold mergeV at h; cases h); done) | skip
    case bool.bool a b => unfold mergeV at h; cases h; cases q <;> rfl
    case int.int k a k' b =>
      unfold mergeV at h
      cases hk : kindB k k' with
      | false => rw [hk] at h; cases h
      | true =>
        rw [hk] at h
        obtain rfl := kindB_eq hk
        cases h
        cases q <;> rfl
    case string.string a b => unfold mergeV at h; cases h; cases q <;> rfl
    case slice.slice A n c A' n' c' => unfold mergeV at h; cases h; cases q <;> rfl
    case agg.agg xs ys =>
      cases d with
      | zero => unfold mergeV at h; cases h
      | succ d =>
        unfold mergeV at h
        cases hm : mergeL (mergeV d q) xs.toList ys.toList with
        | none => simp only [hm] at h; cases h
        | some zs =>
          simp only [hm] at h
          obtain rfl := Option.some.inj h
          rw [mergeL_ok (fun x y z hz => mergeV_ok hz) hm]
          cases q <;> rfl
    case tuple.tuple xs ys =>
      cases d with
      | zero => unfold mergeV at h; cases h
      | succ d =>
        unfold mergeV at h
        cases hm : mergeL (mergeV d q) xs.toList ys.toList with
        | none => simp only [hm] at h; cases h
        | some zs =>
          simp only [hm] at h
          obtain rfl := Option.some.inj h
          rw [mergeL_ok (fun x y z hz => mergeV_ok hz) hm]
          cases q <;> rfl

def guardOf (b : Bool) : Operand → Guards → Guards
  | .tmp u, G => (u, b) :: G
  | _, G => G
theorem guardOf_ok {a : Act} {G : Guards} {b : Bool} {c : Operand} (hG : GOk (tmOf a) G) (hc : a.eval c = .bool b) : GOk (tmOf a) (guardOf b c G) := by
  cases c <;> first | exact hG | skip
  rename_i u
  intro k d hk
  unfold guardOf inG at hk
  cases hu : Nat.beq u k with
  | false => rw [hu] at hk; exact hG k d hk
  | true =>
    rw [hu] at hk
    simp only [cond_true] at hk
    obtain rfl := Nat.eq_of_beq_eq_true hu
    cases hb : beqB b d with
    | false => rw [hb] at hk; exact hG _ d hk
    | true => obtain rfl := beqB_eq hb; exact hc

def constB : Operand → Option Bool
  | .const (.bool b) => some b
  | _ => none
/-- 'pick c a b' -/
def pickE (s : St) (G : Guards) (c x y : Operand) : Option Value :=
  match s.raw G c with
  | some (.bool q) => match s.raw (guardOf true c G) x, s.raw (guardOf false c G) y with
    | some x', some y' => match constB x, constB y, x', y' with
      | some true, _, _, .bool p => some (.bool (q || p))
      | _, some false, .bool p, _ => some (.bool (q && p))
      | _, _, _, _ => mergeV 2 q x' y'
    | _, _ => none
  | _ => none

theorem raw_const {s : St} {G : Guards} {x : Operand} {b : Bool} {v : Value} (h : constB x = some b) (hr : s.raw G x = some v) : v = .bool b := by
  match x, h with
  | .const (.bool c), h' =>
    obtain rfl : c = b := Option.some.inj h'
    exact (Option.some.inj hr).symm

theorem pickE_ok {E : Env} {B : World} {N : Nm} {s : St} {a : Act} {R : World} {G : Guards} (h : RelE E B N s a R) (hG : GOk (tmOf a) G) {c x y : Operand} {z : Value} (he : pickE s G c x y = some z) :
    ∃ q, a.eval c = .bool q ∧ z = if q then a.eval x else a.eval y := by
  unfold pickE at he
  cases hc : s.raw G c with
  | none => simp only [hc] at he; cases he
  | some cv =>
    cases cv <;> first | (simp only [hc] at he; cases he; done) | skip
    rename_i q
    have hq := raw_ok h hG hc
    refine ⟨q, hq, ?_⟩
    simp only [hc] at he
    cases hx : s.raw (guardOf true c G) x with
    | none => simp only [hx] at he; cases he
    | some x' =>
      cases hy : s.raw (guardOf false c G) y with
      | none => simp only [hx, hy] at he; cases he
      | some y' =>
        simp only [hx, hy] at he
        have main : z = if q then x' else y' := by
          split at he
          · rename_i h1
            have := raw_const h1 hx
            subst this
            obtain rfl := Option.some.inj he
            cases q <;> rfl
          · rename_i h1 _
            have := raw_const h1 hy
            subst this
            obtain rfl := Option.some.inj he
            cases q <;> rfl
          · have := mergeV_ok he
            rw [this]
            cases q <;> rfl
        rw [main]
        cases q with
        | true => rw [if_pos rfl, if_pos rfl, raw_ok h (guardOf_ok hG hq) hx]
        | false => rw [if_neg Bool.false_ne_true, if_neg Bool.false_ne_true, raw_ok h (guardOf_ok hG hq) hy]
end Go.Proofs.Yteebobbhhgmeiaa
