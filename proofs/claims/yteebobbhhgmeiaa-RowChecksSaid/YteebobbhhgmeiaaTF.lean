/- A symbolic run over typed data, part F: the operations that leave the world alone. -/
import Derived.Test.YteebobbhhgmeiaaTE
import Derived.Test.YteebobbhhgmeiaaT1
namespace Go.Proofs.Yteebobbhhgmeiaa
open Go.RowKit

/-! ### rows read as typed data -/
def decs (c : TC) : List (List A) → Option (List (U c) × List Prop)
  | [] => some ([], [])
  | x :: r => match dec c x with
    | some (d, ps) => match decs c r with
      | some (l, qs) => some (d :: l, ps ++ qs)
      | none => none
    | none => none
def elsTy (c : TC) : Els → Option (List (U c) × List Prop)
  | .ty c' l => match TC.same c' c with
    | some h => some (castL h.down l, [])
    | none => none
  | .lst cs => decs c cs
def asBytes (c : TC) (l : List (U c)) : Option (List UInt8) := match TC.same c .u8 with
  | some h => some (castL h.down l)
  | none => none
section
variable {F : Nat → Prop} {N : Nm} {nx : Nat} {R : World}
theorem decs_ok {c : TC} : ∀ {cs : List (List A)} {l : List (U c)} {ps : List Prop}, decs c cs = some (l, ps) → (∀ p ∈ ps, p) → l.length = cs.length ∧ ∀ k, k < cs.length → HLs F N nx R (nthL cs k) (enc c (l.getD k (dflt c)))
  | [], l, ps, h, _ => by cases h; exact ⟨rfl, fun k hk => by cases hk⟩
  | x :: r, l, ps, h, hp => by
    unfold decs at h
    split at h <;> first | (cases h; done) | skip
    rename_i d qs hd
    split at h <;> first | (cases h; done) | skip
    rename_i l' rs hl
    cases h
    obtain ⟨h1, h2⟩ := decs_ok hl fun p hm => hp p (List.mem_append.2 (.inr hm))
    refine ⟨by rw [List.length_cons, List.length_cons, h1], fun k hk => ?_⟩
    cases k with
    | zero => exact dec_ok hd fun p hm => hp p (List.mem_append.2 (.inl hm))
    | succ k => exact h2 k (by simpa using hk)
theorem elsTy_ok {c : TC} {els : Els} {l : List (U c)} {ps : List Prop} (h : elsTy c els = some (l, ps)) (hp : ∀ p ∈ ps, p) : l.length = els.n ∧ ∀ k, k < els.n → HLs F N nx R (els.nth k) (enc c (l.getD k (dflt c))) := by
  unfold elsTy at h
  split at h
  · split at h <;> first | (cases h; done) | skip
    rename_i hc _
    obtain ⟨hc⟩ := hc
    subst hc
    cases h
    exact ⟨rfl, fun k _ => .refl _⟩
  · exact decs_ok h hp
theorem asBytes_ok {c : TC} {l : List (U c)} {m : List UInt8} (h : asBytes c l = some m) : ∃ e : c = .u8, m = castL e l := by
  unfold asBytes at h
  split at h <;> first | (cases h; done) | skip
  rename_i hc _
  cases h
  exact ⟨hc.down, rfl⟩
end

def extractE (s : St) (G : Guards) (x : Operand) (ix : Nat) : Option (Option A) := match s.ev G x with
  | some (.tup xs) => some xs[ix]?
  | _ => none
def partE (E : Env) (s : St) (G : Guards) (t : TypeId) (x : Operand) (f : Nat) : Option (Option A) := match s.ev G x with
  | some (.agg cs) => match E.P.underlying t with
    | some (.struct fs) => match fs[f]? with
      | some fd => some (readL E.P fd.type (cs.drop fd.offset))
      | none => some none
    | _ => some none
  | _ => none
def lenE (E : Env) (s : St) (G : Guards) (args : List Operand) (ts : Array TypeId) : Option A :=
  match args with
  | [x] => match s.ev G x with
    | some .nl => match ts[0]? with
      | some t => match E.P.underlying t with
        | some (.slice _) => some (.v (.int .i64 0))
        | _ => none
      | none => none
    | some w => match viewOf s.o w with
      | some (n, _) => match ts[0]? with
        | some t => match E.P.underlying t with
          | some (.slice _) => some (.v (.int .i64 n))
          | _ => none
        | none => none
      | none => none
    | none => none
  | _ => none
def sure : A → Bool
  | .own _ _ => true
  | .ownx _ _ _ _ => true
  | .el _ _ _ _ => true
  | .ref _ => true
  | _ => false
def sureF : A → Bool
  | .fn _ _ _ => true
  | x => sure x
def nilE (s : St) (G : Guards) (x : Operand) : Option A := match s.ev G x with
  | some z => bif sureF z then some z else none
  | none => none
/-- A pointer that is there, against nil. -/
def eqNilE (E : Env) (s : St) (G : Guards) (t : TypeId) (x y : Operand) : Bool := match s.ev G x, s.ev G y with
  | some z, some (.v (.pointer none)) => bif sure z then (match E.P.underlying t with
    | some (.pointer e) => Nat.beq e (E.P.pointee t)
    | _ => false) else false
  | _, _ => false
def eqE (E : Env) (s : St) (G : Guards) (t : TypeId) (x y : Operand) : Option (Option Bool) :=
  match s.raw G x, s.raw G y with
  | some (.agg xs), some (.agg ys) => some (E.eq t xs.toList ys.toList)
  | _, _ => none
def bytesOf (o : Objs) : A → Option (List UInt8 × List Prop)
  | .sl c l => match asBytes c l with
    | some m => some (m, [])
    | none => none
  | .sq i => match lookO i o with
    | some (.arr _ 1 els) => elsTy .u8 els
    | _ => none
  | .vw i sz lo n _ => match lookO i o with
    | some (.arr _ 1 els) => bif Nat.beq sz 1 then (match elsTy .u8 els with
      | some (l, ps) => some ((l.drop lo).take n, (lo + n ≤ l.length) :: ps)
      | none => none) else none
    | _ => none
  | _ => none
def bytesE (E : Env) (s : St) (G : Guards) (src dst : TypeId) (x : Operand) : Option R2 := match s.ev G x with
  | some w => match bytesOf s.o w with
    | some (l, ps) => match E.P.underlying src, E.P.underlying dst with
      | some (.slice e), some .string => match E.P.underlying e with
        | some (.int .u8) => some (some (.v (.string ⟨l.toArray⟩), ps))
        | _ => some none
      | _, _ => some none
    | none => none
  | none => none
def minmaxE (s : St) (G : Guards) (b : Builtin) (args : List Operand) : Option Value :=
  match args with
  | [x, y] => match s.raw G x, s.raw G y with
    | some (.int k a), some (.int _ c) => match b with
      | .max => some (.int k (max a c))
      | .min => some (.int k (min a c))
      | _ => none
    | _, _ => none
  | _ => none
def evAll (s : St) (G : Guards) : List Operand → Option (List A)
  | [] => some []
  | o :: r => match s.ev G o with
    | some x => match evAll s G r with
      | some xs => some (x :: xs)
      | none => none
    | none => none
def strIxE (E : Env) (s : St) (G : Guards) (t : TypeId) (x i : Operand) : Option R2 := match s.raw G x, s.raw G i with
  | some (.string b), some (.int _ n) => match E.P.underlying t with
    | some .string => some (wth (.v (byteAt b.data.toList n.toNat)) (ndB E.lit (0 ≤ n ∧ n < (b.size : Int))))
    | _ => none
  | _, _ => none
def funcE (s : St) (G : Guards) (fn : Fn) (first captured : List Operand) : Option A := match fn with
  | .func f => match evAll s G first, evAll s G captured with
    | some xs, some ys => some (.fn f xs ys)
    | _, _ => none
  | _ => none

def goesB (P : Program) (f : FuncId) : Bool := match P.funcs[f]? with
  | some fn => fn.body.isSome && !(fn.name == "runtime.NumGoroutine")
  | none => false
def calleeE (s : St) (G : Guards) (f : Operand) : Option (FuncId × List A × List A) := match s.ev G f with
  | some (.fn g first caps) => some (g, first, caps)
  | some (.v (.func (.func g) first caps)) => some (g, toL first.toList, toL caps.toList)
  | _ => none
def callR (E : Env) (s : St) (G : Guards) (f : Operand) (args : List Operand) : Option CRes := match calleeE s G f with
  | some (g, first, caps) => bif goesB E.P g then (match evAll s G args with
    | some xs => E.C g (first ++ (xs ++ caps)) s.nx s.o
    | none => none) else none
  | none => none
def callE (E : Env) (s : St) (G : Guards) (f : Operand) (args : List Operand) : R2 := match callR E s G f args with
  | some (k, .v w, _, _, ps) => bif Nat.ble k 1 then some (.v w, ps) else none
  | _ => none

/-- A shift by a number that is not negative, a division by one that is not zero. -/
def arithE (E : Env) (s : St) (G : Guards) (o : Oper) (op : BinOp) (x y : Operand) : R2 := bif E.lit || isConst y then pureR E s G o else match s.raw G x, s.raw G y with
  | some (.int k a), some (.int k' b) => match op with
    | .shl => some (.v (.int k (k.wrap (a * 2 ^ (min b.toNat k.bits)))), [0 ≤ b])
    | .shr => some (.v (.int k (a.fdiv (2 ^ (min b.toNat k.bits)))), [0 ≤ b])
    | .quo => bif kindB k k' then some (.v (.int k (k.wrap (a.tdiv b))), [b ≠ 0]) else none
    | .rem => bif kindB k k' then some (.v (.int k (a.tmod b)), [b ≠ 0]) else none
    | _ => none
  | _, _ => none
/-- A part of what an iterator over a text told. -/
def itE (s : St) (G : Guards) (x : Operand) (ix : Nat) : Option R2 := match s.ev G x with
  | some (.it q vs) => match ix with
    | 0 => some (some (.v (.bool q), []))
    | k + 1 => match vs[k]? with
      | some v => some (some (.v v, [q = true]))
      | none => some none
  | _ => none
/-! ### maps from texts to numbers -/
def findM : List (ByteArray × Int) → ByteArray → Int
  | [], _ => 0
  | (a, n) :: r, b => bif b == a then n else findM r b
def updM : List (ByteArray × Int) → ByteArray → Int → List (ByteArray × Int)
  | [], b, n => [(b, n)]
  | (a, m) :: r, b, n => bif b == a then (b, n) :: r else (a, m) :: updM r b n
def mapI (o : Objs) : A → Option (Nat × List (ByteArray × Int))
  | .mp i => match lookO i o with
    | some (.map .str .i64 l) => some (i, l)
    | _ => none
  | _ => none
def keyB (E : Env) (t : TypeId) : Bool := match E.P.underlying t with
  | some (.map k v) => match E.P.underlying k, (E.P.info? v).bind (·.zero) with
    | some .string, some (.int .i64 z) => decide (z = 0)
    | _, _ => false
  | _ => false
def lookE (E : Env) (s : St) (G : Guards) (t : TypeId) (m k : Operand) : R2 := match s.ev G m, s.raw G k with
  | some x, some (.string b) => match mapI s.o x with
    | some (_, l) => bif keyB E t then some (.v (.int .i64 (findM l b)), []) else none
    | none => none
  | _, _ => none
/-- A choice; a side that was passed over is not taken. -/
def isUn : A → Bool
  | .v (.tuple _) => true
  | _ => false
def pickP (s : St) (G : Guards) (c x y : Operand) : R2 := match s.raw G c, s.ev (guardOf true c G) x, s.ev (guardOf false c G) y with
  | some (.bool q), some x', some y' => bif isUn y' then some (x', [q = true]) else bif isUn x' then some (y', [q = false]) else match pickE s G c x y with
    | some z => some (z, [])
    | none => none
  | _, _, _ => none
/-- The operations that leave the world alone, or let it grow by a call. -/
def valE (E : Env) (s : St) (G : Guards) (o : Oper) : R2 :=
  match o.op with
  | .move x | .assign x => match s.ev G x with
    | some z => some (z, [])
    | none => none
  | .pick c x y => pickP s G c x y
  | .extract x ix => match itE s G x ix with
    | some r => r
    | none => match extractE s G x ix with
      | some (some z) => some (z, [])
      | some none => none
      | none => pureR E s G o
  | .field t x f => match partE E s G t x f with
    | some (some z) => some (z, [])
    | some none => none
    | none => pureR E s G o
  | .fieldAddr t x f => fieldE E s G t x f
  | .indexAddr t x i => indexE E s G t x i
  | .load t x => loadE E s G t x
  | .slice t x lo hi mx => sliceE E s G o t x lo hi mx
  | .build t parts => buildE E s G t parts.toList
  | .nilCheck x => match nilE s G x with
    | some z => some (z, [])
    | none => pureR E s G o
  | .index t x i => match strIxE E s G t x i with
    | some r => r
    | none => pureR E s G o
  | .makeFunc fn first captured => match funcE s G fn first.toList captured.toList with
    | some z => some (z, [])
    | none => none
  | .call { callee := .value f, args, .. } => callE E s G f args.toList
  | .call { callee := .builtin .len, args, argTypes } => match lenE E s G args.toList argTypes with
    | some z => some (z, [])
    | none => pureR E s G o
  | .call { callee := .builtin .max, args, .. } => match minmaxE s G .max args.toList with
    | some z => some (.v z, [])
    | none => pureR E s G o
  | .call { callee := .builtin .min, args, .. } => match minmaxE s G .min args.toList with
    | some z => some (.v z, [])
    | none => pureR E s G o
  | .convert src dst x => match bytesE E s G src dst x with
    | some r => r
    | none => pureR E s G o
  | .binOp .eql t x y _ => bif eqNilE E s G t x y then some (.v (.bool false), []) else match eqE E s G t x y with
    | some (some b) => some (.v (.bool b), [])
    | some none => none
    | none => pureR E s G o
  | .binOp .neq t x y _ => bif eqNilE E s G t x y then some (.v (.bool true), []) else match eqE E s G t x y with
    | some (some b) => some (.v (.bool !b), [])
    | some none => none
    | none => pureR E s G o
  | .binOp .shl _ x y _ => arithE E s G o .shl x y
  | .binOp .shr _ x y _ => arithE E s G o .shr x y
  | .binOp .quo _ x y _ => arithE E s G o .quo x y
  | .binOp .rem _ x y _ => arithE E s G o .rem x y
  | .lookup t m k false => lookE E s G t m k
  | _ => pureR E s G o

section
variable {E : Env} {Z : Base} {F : Nat → Prop} {N : Nm} {s : St} {a : Act} {R : World} {G : Guards}

theorem evAll_ok (h : Rel Z F N s a R) (hG : GOk (tmOf a) G) : ∀ {l : List Operand} {xs : List A}, evAll s G l = some xs → HL F N s.nx R xs (l.map a.eval)
  | [], xs, he => by obtain rfl := Option.some.inj he; exact HL.nil
  | o :: r, xs, he => by
    unfold evAll at he
    cases hx : s.ev G o with
    | none => simp only [hx] at he; cases he
    | some x =>
      cases hr : evAll s G r with
      | none => simp only [hx, hr] at he; cases he
      | some ys =>
        simp only [hx, hr] at he
        obtain rfl := Option.some.inj he
        exact HL.cons (ev_ok h hG hx).2 (evAll_ok h hG hr)
theorem run_goes {P : Program} {f : FuncId} (hf : goesB P f = true) (args : Array Value) (R : World) : (callFunc f args).run P R = .ok (.enter f args) R := by
  unfold goesB at hf
  cases hq : P.funcs[f]? with
  | none => simp only [hq] at hf; cases hf
  | some fn =>
    simp only [hq, Bool.and_eq_true] at hf
    obtain ⟨h1, h2⟩ := hf
    have h2' : (fn.name == "runtime.NumGoroutine") = false := by simpa using h2
    have h1' : fn.body.isNone = false := by cases hb : fn.body <;> simp_all
    simp only [callFunc, Sem.run_bind, run_program, Result.andThen_ok, hq, h2', h1']
    rfl
/-- A call: what it is given. -/
theorem callR_ok (h : Rel Z F N s a R) (hG : GOk (tmOf a) G) {o : Oper} {f : Operand} {args : Array Operand} {ts : Array TypeId} (ho : o.op = .call { callee := .value f, args, argTypes := ts }) {r : CRes} (he : callR E s G f args.toList = some r) :
    ∃ g xs vs, E.C g xs s.nx s.o = some r ∧ HL F N s.nx R xs vs ∧ ∀ R', (execOp a.eval o).run E.P R' = .ok (.enter g vs.toArray) R' := by
  unfold callR at he
  split at he <;> first | (cases he; done) | skip
  rename_i g first caps hc
  cases hg : goesB E.P g with
  | false => rw [hg] at he; cases he
  | true =>
    rw [hg] at he
    simp only [cond_true] at he
    split at he <;> first | (cases he; done) | skip
    rename_i xs hxs
    have hal := evAll_ok h hG hxs
    have hfv : ∃ vs us, a.eval f = .func (.func g) vs.toArray us.toArray ∧ HL F N s.nx R first vs ∧ HL F N s.nx R caps us := by
      unfold calleeE at hc
      split at hc <;> first | (cases hc; done) | skip
      · rename_i hev
        cases hc
        exact (ev_ok h hG hev).2.fn_inv
      · rename_i first' caps' hev
        cases hc
        have := (ev_ok h hG hev).2.v_inv
        exact ⟨first'.toList, caps'.toList, by simpa using this, HL.toL _, HL.toL _⟩
    obtain ⟨vs, us, e1, h1, h2⟩ := hfv
    refine ⟨g, _, vs ++ (args.toList.map a.eval ++ us), he, h1.append (hal.append h2), fun R' => ?_⟩
    obtain ⟨dst, op, type, pos, after, guard⟩ := o
    simp only at ho
    subst ho
    show (do let d ← resolve a.eval _ type; invoke d.target d.args : Sem Next).run E.P R' = _
    have hr : (resolve a.eval { callee := .value f, args, argTypes := ts } type) = pure { target := .fn (.func g) us.toArray, args := vs.toArray ++ args.map a.eval } := by
      simp only [resolve, e1, Deferred.ofValue]
    rw [hr]
    simp only [Sem.run_bind, Sem.run_pure, Result.andThen_ok, invoke]
    have hargs : vs.toArray ++ args.map a.eval ++ us.toArray = (vs ++ (args.toList.map a.eval ++ us)).toArray := by
      apply Array.ext'
      simp
    rw [hargs]
    exact run_goes hg _ R'

theorem up_val {P : Program} {C : World → Prop} {v : Value} {r : Result Next} (h : r = .ok (.value v) R) : Oper.quietUpon P C R v r := by
  rw [h]; exact ⟨rfl, rfl⟩
theorem run_lift {α : Type} {P : Program} {m : Sem α} {f : α → Next} {x : α} (h : m.run P R = .ok x R) : ((do pure (f (← m)) : Sem Next)).run P R = .ok (f x) R := by
  simp [h]
theorem run_part {P : Program} {t : TypeId} {l : List A} {z : A} {cs : Array Value} {off nx : Nat} (he : readL P t l = some z) (hl : HL F N nx R l (cs.toList.drop off)) :
    ∃ y, Hv F N nx R z y ∧ ∀ R', (part t cs off).run P R' = .ok y R' := by
  unfold readL at he
  split at he <;> first | (cases he; done) | skip
  · rename_i hr
    split at he <;> first | (cases he; done) | skip
    rename_i n hn
    cases hb : Nat.ble n l.length with
    | false => rw [hb] at he; cases he
    | true =>
      rw [hb] at he
      cases he
      refine ⟨_, aggA_ok (hl.take n), fun R' => ?_⟩
      unfold rowP at hr
      unfold sizeP at hn
      cases hu : P.underlying t with
      | none => rw [hu] at hr; cases hr
      | some d =>
        rw [hu] at hr
        cases hi : P.info? t with
        | none => rw [hi] at hn; cases hn
        | some i =>
          rw [hi] at hn
          have hn' : i.size = n := Option.some.inj hn
          have hx : (cs.extract off (off + n)) = (List.take n (List.drop off cs.toList)).toArray := by
            apply Array.ext'
            rw [Array.toList_extract, List.extract_eq_take_drop]
            congr 1
            omega
          cases d <;> first | (simp [part, isAgg, run_underlying hu, sizeOf, typeInfo, hi, hn', hx]; done) | (simp at hr; done)
  · rename_i hr
    split at he <;> first | (cases he; done) | skip
    cases he
    obtain ⟨v, us, e, h1, _⟩ := hl.inv
    refine ⟨v, h1, fun R' => ?_⟩
    have hc : cs[off]? = some v := by
      have : (cs.toList.drop off)[0]? = some v := by rw [e]; rfl
      rw [List.getElem?_drop] at this
      simpa using this
    unfold rowP at hr
    cases hu : P.underlying t with
    | none => rw [hu] at hr; cases hr
    | some d =>
      rw [hu] at hr
      cases d <;> first | (simp [part, isAgg, run_underlying hu, hc]; done) | (simp at hr; done)

theorem eqE_ok (ok : EnvOk E) (h : Rel Z F N s a R) (hG : GOk (tmOf a) G) {t : TypeId} {x y : Operand} {b : Bool} (he : eqE E s G t x y = some (some b)) (op : BinOp) (hop : op = .eql ∨ op = .neq) (R' : World) :
    (do eqGuard op t x y (a.eval x) (a.eval y); binOp op t (a.eval x) (a.eval y) : Sem Value).run E.P R' = .ok (.bool (bif (op matches .eql) then b else !b)) R' := by
  unfold eqE at he
  split at he <;> first | (cases he; done) | skip
  rename_i xs ys hx hy
  rw [raw_ok h hG hx, raw_ok h hG hy]
  obtain ⟨h1, h2⟩ := ok.eq t xs.toList ys.toList b (Option.some.inj he)
  have h3 := h2 R'
  simp only [Array.toArray_toList] at h3
  have hg := run_eqGuard_agg R' op t x y xs ys h1
  rcases hop with rfl | rfl
  · simp [hg, binOp, Op.equal, Op.maxDepth, h3]
  · simp [hg, binOp, Op.equal, Op.maxDepth, h3]
theorem sure_ptr {nx : Nat} {z : A} {y : Value} (hs : sure z = true) (h : Hv F N nx R z y) : ∃ ad, y = .pointer (some ad) := by
  cases z <;> first | (cases hs; done) | skip
  · obtain ⟨ad, h1, _⟩ := h.ref_inv; exact ⟨_, h1⟩
  · exact ⟨_, h.own_inv.2⟩
  · exact ⟨_, h.ownx_inv.2⟩
  · exact ⟨_, h.el_inv.2⟩
theorem eqNil_ok (h : Rel Z F N s a R) (hG : GOk (tmOf a) G) {t : TypeId} {x y : Operand} (he : eqNilE E s G t x y = true) (op : BinOp) (hop : op = .eql ∨ op = .neq) (R' : World) :
    (do eqGuard op t x y (a.eval x) (a.eval y); binOp op t (a.eval x) (a.eval y) : Sem Value).run E.P R' = .ok (.bool (bif (op matches .eql) then false else true)) R' := by
  unfold eqNilE at he
  split at he <;> first | (cases he; done) | skip
  rename_i z hx hy
  cases hs : sure z with
  | false => rw [hs] at he; cases he
  | true =>
    rw [hs] at he
    simp only [cond_true] at he
    split at he <;> first | (cases he; done) | skip
    rename_i e hu
    have hpe := Nat.eq_of_beq_eq_true he
    obtain ⟨ad, e1⟩ := sure_ptr hs (ev_ok h hG hx).2
    rw [e1, (ev_ok h hG hy).2.v_inv]
    rw [hpe] at hu
    rcases hop with rfl | rfl
    · have := run_eql_pointer_nil (P := E.P) R' t (some ad) hu
      simp [eqGuard, this]
    · have := run_neq_pointer_nil (P := E.P) R' t (some ad) hu
      simp [eqGuard, this]
theorem u8_cell {v : Value} {nx : Nat} {b : UInt8} {vs : List Value} (h : HL F N nx R (enc .u8 b) vs) (hv : vs[0]? = some v) : v = byteV b := by
  obtain ⟨u, us, rfl, h1, _⟩ := HL.inv (x := .v (byteV b)) (r := []) h
  cases hv
  exact h1.v_inv
theorem bytes_val (h : HRel F N s.nx s.o R) {w : A} {l : List UInt8} {ps : List Prop} {y : Value} (hb : bytesOf s.o w = some (l, ps)) (hp : ∀ p ∈ ps, p) (hw : Hv F N s.nx R w y) :
    ∃ a c, y = .slice a l.length c ∧ l.length ≤ c ∧ (0 < l.length → ∃ ad, a = some ad ∧ ∀ j b, l[j]? = some b → R.cell? (ad.add j) = some (byteV b)) := by
  have row : ∀ {i e els m qs}, lookO i s.o = some (.arr e 1 els) → elsTy .u8 els = some (m, qs) → (∀ p ∈ qs, p) → 0 < m.length → ∃ g c, N.q i = .slice (some ⟨g, 0, none⟩) m.length c ∧ m.length ≤ c ∧ placeOf (N.q i) = ⟨g, 0, none⟩ ∧ ∀ (j : Nat) (b : UInt8), m[j]? = some b → R.cell? ⟨g, j, none⟩ = some (byteV b) := fun {i e els m qs} hl ht hq hpos => by
    obtain ⟨_, zs, g1, g2⟩ := h.ob i _ hl
    obtain ⟨e1, e2⟩ := elsTy_ok (F := F) (N := N) (nx := s.nx) (R := R) ht hq
    obtain ⟨g, c, q1, q2, q3, _, q5⟩ := row_place g1 (by omega)
    rw [e1]
    refine ⟨g, c, q1, q2, q3, fun j b hj => ?_⟩
    have hlt : j < m.length := (List.getElem?_eq_some_iff.1 hj).1
    have h3 := e2 j (by omega) _ (g2 j (by omega))
    have hget : m.getD j (dflt .u8) = b := by rw [List.getD_eq_getElem?_getD, hj]; rfl
    rw [hget] at h3
    have hlen := h3.length
    have hz : ∃ v, ((zs.drop (j * 1)).take 1)[0]? = some v := by
      have : 0 < ((zs.drop (j * 1)).take 1).length := by rw [hlen]; exact Nat.zero_lt_one
      exact ⟨_, List.getElem?_eq_getElem this⟩
    obtain ⟨v, hv⟩ := hz
    have := u8_cell h3 hv
    subst this
    have := q5 _ _ (slice_get hv)
    rwa [Nat.mul_one, Nat.add_zero] at this
  unfold bytesOf at hb
  split at hb <;> first | (cases hb; done) | skip
  · rename_i c l'
    split at hb <;> first | (cases hb; done) | skip
    rename_i m hm
    cases hb
    obtain ⟨e, rfl⟩ := asBytes_ok hm
    subst e
    obtain ⟨a, cap, h1, h2, h3⟩ := hw.sl_inv
    refine ⟨a, cap, h1, h2, fun hn => ?_⟩
    obtain ⟨ad, q1, _, q2⟩ := h3 hn
    refine ⟨ad, q1, fun j b hj => ?_⟩
    obtain ⟨y, r1, r2⟩ := q2 j b hj 0 (.v (byteV b)) rfl
    rw [add_add, Nat.add_zero, show size .u8 = 1 from rfl, Nat.mul_one] at r1
    rw [r1, r2.v_inv]
  · rename_i i
    split at hb <;> first | (cases hb; done) | skip
    rename_i e els hl
    rw [hw.sq_inv.2]
    by_cases hpos : 0 < l.length
    · obtain ⟨g, c, q1, q2, q3, q4⟩ := row hl hb hp hpos
      exact ⟨_, c, q1, q2, fun _ => ⟨_, rfl, fun j b hj => by rw [add_mk, Nat.zero_add]; exact q4 j b hj⟩⟩
    · obtain ⟨_, zs, g1, _⟩ := h.ob i _ hl
      obtain ⟨e1, _⟩ := elsTy_ok (F := F) (N := N) (nx := s.nx) (R := R) hb hp
      obtain ⟨a, c, e2, e3⟩ := g1.form
      exact ⟨a, c, by rw [e1]; exact e2, by omega, fun hp => absurd hp hpos⟩
  · rename_i i sz lo n f
    split at hb <;> first | (cases hb; done) | skip
    rename_i e els hl
    cases hz : Nat.beq sz 1 with
    | false => rw [hz] at hb; cases hb
    | true =>
      rw [hz] at hb
      obtain rfl := Nat.eq_of_beq_eq_true hz
      simp only [cond_true] at hb
      split at hb <;> first | (cases hb; done) | skip
      rename_i m qs hm
      cases hb
      have hle : lo + n ≤ m.length := hp _ (List.mem_cons_self ..)
      have hlen : ((m.drop lo).take n).length = n := by rw [List.length_take, List.length_drop]; omega
      obtain ⟨_, aa, c, rfl, q2, _, q4⟩ := hw.vw_inv
      rw [hlen]
      refine ⟨aa, c, rfl, q2, fun hpn => ⟨_, q4 hpn, fun j b hj => ?_⟩⟩
      obtain ⟨g, c', _, _, r3, r4⟩ := row hl hm (fun p hm => hp p (List.mem_cons_of_mem _ hm)) (by omega)
      rw [r3, add_mk, add_mk, Nat.zero_add, Nat.mul_one]
      rw [List.getElem?_take] at hj
      split at hj <;> first | (cases hj; done) | skip
      rw [List.getElem?_drop] at hj
      exact r4 _ _ hj
theorem minmax_ok (h : Rel Z F N s a R) (hG : GOk (tmOf a) G) {b : Builtin} {args : List Operand} {v : Value} (he : minmaxE s G b args = some v) (hb : b = .max ∨ b = .min) (ts : Array TypeId) (t : TypeId) (cs : Array Bool) (R' : World) :
    (builtin b ts t cs (args.map a.eval).toArray).run E.P R' = .ok (.value v) R' := by
  unfold minmaxE at he
  split at he <;> first | (cases he; done) | skip
  split at he <;> first | (cases he; done) | skip
  rename_i x y _ k i k' c hx hy
  rw [List.map_cons, List.map_cons, List.map_nil, raw_ok h hG hx, raw_ok h hG hy]
  rcases hb with rfl | rfl
  · cases he
    simp [builtin, my_max]
  · cases he
    simp [builtin, my_min]
theorem arith_ok (h : Rel Z F N s a R) (hG : GOk (tmOf a) G) {o : Oper} {op : BinOp} {t yt : TypeId} {x y : Operand} (ho : o.op = .binOp op t x y yt) {z : A} {ps : List Prop} (he : arithE E s G o op x y = some (z, ps)) (hp : ∀ p ∈ ps, p) :
    ∃ v, Hv F N s.nx R z v ∧ ∀ R', (execOp a.eval o).run E.P R' = .ok (.value v) R' := by
  unfold arithE at he
  cases hc : (E.lit || isConst y) with
  | true => rw [hc] at he; exact pureR_ok h hG he
  | false =>
    rw [hc] at he
    simp only [cond_false] at he
    obtain ⟨dst, op', type, pos, after, guard⟩ := o
    simp only at ho
    subst ho
    split at he <;> first | (cases he; done) | skip
    rename_i k i k' b hx hy
    have ex := raw_ok h hG hx
    have ey := raw_ok h hG hy
    split at he <;> first | (cases he; done) | skip
    · cases he
      have hb : 0 ≤ b := hp _ (List.mem_singleton.2 rfl)
      refine ⟨_, .v _, fun R' => run_lift (f := Next.value) ?_⟩
      rw [ex, ey]
      simp [eqGuard, binOp, Op.shift, show ¬ b < 0 by omega]
    · cases he
      have hb : 0 ≤ b := hp _ (List.mem_singleton.2 rfl)
      refine ⟨_, .v _, fun R' => run_lift (f := Next.value) ?_⟩
      rw [ex, ey]
      simp [eqGuard, binOp, Op.shift, show ¬ b < 0 by omega]
    · cases hk : kindB k k' with
      | false => rw [hk] at he; cases he
      | true =>
        rw [hk] at he
        cases he
        obtain rfl := kindB_eq hk
        have hb : b ≠ 0 := hp _ (List.mem_singleton.2 rfl)
        refine ⟨_, .v _, fun R' => run_lift (f := Next.value) ?_⟩
        rw [ex, ey]
        simp [eqGuard, binOp, Op.intDiv, hb]
    · cases hk : kindB k k' with
      | false => rw [hk] at he; cases he
      | true =>
        rw [hk] at he
        cases he
        obtain rfl := kindB_eq hk
        have hb : b ≠ 0 := hp _ (List.mem_singleton.2 rfl)
        refine ⟨_, .v _, fun R' => run_lift (f := Next.value) ?_⟩
        rw [ex, ey]
        simp [eqGuard, binOp, Op.intDiv, hb]
end
theorem pickP_ok {Z : Base} {F : Nat → Prop} {N : Nm} {s : St} {a : Act} {R : World} {G : Guards} (h : Rel Z F N s a R) (hG : GOk (tmOf a) G) {c x y : Operand} {z : A} {ps : List Prop} (he : pickP s G c x y = some (z, ps)) (hp : ∀ p ∈ ps, p) :
    ∃ q, a.eval c = .bool q ∧ Hv F N s.nx R z (if q then a.eval x else a.eval y) := by
  unfold pickP at he
  split at he <;> first | (cases he; done) | skip
  rename_i q x' y' hc hx hy
  have hq := raw_ok h hG hc
  cases h1 : isUn y' with
  | true =>
    rw [h1] at he
    cases he
    have hq1 : q = true := hp _ (List.mem_singleton.2 rfl)
    subst hq1
    exact ⟨true, hq, (ev_ok h (guardOf_ok hG hq) hx).2⟩
  | false =>
    rw [h1] at he
    cases h2 : isUn x' with
    | true =>
      rw [h2] at he
      cases he
      have hq1 : q = false := hp _ (List.mem_singleton.2 rfl)
      subst hq1
      exact ⟨false, hq, (ev_ok h (guardOf_ok hG hq) hy).2⟩
    | false =>
      rw [h2] at he
      simp only [cond_false] at he
      split at he <;> first | (cases he; done) | skip
      rename_i z' hz
      cases he
      exact pickE_ok h hG hz
end Go.Proofs.Yteebobbhhgmeiaa
