/- A symbolic run with sequences, part D: the effect of one operation, and that it is what the model does. -/
import Derived.Test.YteebobbhhgmeiaaSyC
namespace Go.Proofs.Yteebobbhhgmeiaa
open Go.RowKit

inductive Eff where
  | val (x : AV)
  | box (e : TypeId) (cs : List LV) (x : AV)
  | set (i : Nat) (e : TypeId) (cs : List LV)
  | more (x : AV) (news : List Sq) (drop : Option Nat)

abbrev R2 := Option (AV × List Prop)

def fieldE (E : Env) (s : St) (G : Guards) (t : TypeId) (x : Operand) (f : Nat) : R2 :=
  match E.P.underlying t with
  | some (.struct fs) => match fs[f]? with
    | some fd => match sizeP E.P fd.type with
      | some n => bif Nat.beq n 0 then none else match s.ev G x with
        | some (.own i off) => some (.own i (off + fd.offset), [])
        | some (.v (.pointer (some ad))) => some (.v (.pointer (some (ad.add fd.offset))), [])
        | some (.el k off) => some (.el k (off + fd.offset), [])
        | _ => none
      | none => none
    | none => none
  | _ => none

def isConst : Operand → Bool
  | .const _ => true
  | _ => false

def indexE (E : Env) (s : St) (G : Guards) (t : TypeId) (x i : Operand) : R2 :=
  match s.raw G i with
  | some (.int _ n) => match E.P.underlying t with
    | some (.array len e) => match sizeP E.P e with
      | some sz => match s.ev G x with
        | some (.own b off) => bif isConst i then (bif decide (0 ≤ n ∧ n < (len : Int)) then some (.own b (off + n.toNat * sz), []) else none)
            else bif Nat.beq sz 1 then some (.ownx b off len n.toNat, [0 ≤ n ∧ n < (len : Int)]) else none
        | some (.v (.pointer (some ad))) => some (.v (.pointer (some (ad.add (n.toNat * sz)))), [0 ≤ n ∧ n < (len : Int)])
        | some (.el k off) => some (.el k (off + n.toNat * sz), [0 ≤ n ∧ n < (len : Int)])
        | _ => none
      | none => none
    | some (.slice e) => match sizeP E.P e with
      | some sz => match s.ev G x with
        | some (.osl b len _) => bif isConst i then (bif decide (0 ≤ n ∧ n < (len : Int)) then some (.own b (n.toNat * sz), []) else none)
            else bif Nat.beq sz 1 then some (.ownx b 0 len n.toNat, [0 ≤ n ∧ n < (len : Int)]) else none
        | some (.v (.slice A len _)) => some (.v (.pointer (some ((addrOf A).add (n.toNat * sz)))), [0 ≤ n ∧ n < (len : Int), A = some (addrOf A)])
        | some (.sq k) => match s.seq k with
          | some q => bif Nat.beq sz q.size then some (.el k (n.toNat * sz), [0 ≤ n ∧ n < (q.n : Int)]) else none
          | none => none
        | _ => none
      | none => none
    | _ => none
  | _ => none

/-- Cells as a value. -/
def aggA (cs : List LV) : Option AV := match rawL cs with
  | some xs => some (.v (.agg xs.toArray))
  | none => bif liveL cs then some (.agg cs) else none
def oneA : LV → Option AV
  | .v x => some (.v x)
  | .sq k => some (.sq k)
  | .dead => none
/-- A cell as its type has it. -/
def tyI : Value → Int
  | .int _ n => n
  | _ => 0
def tyB : Value → Bool
  | .bool b => b
  | _ => false
def tyS : Value → ByteArray
  | .string s => s
  | _ => ⟨#[]⟩
def tyAs (c : Value) : Value → Value
  | .int k _ => .int k (tyI c)
  | .bool _ => .bool (tyB c)
  | .string _ => .string (tyS c)
  | x => x
def tyCells (xs : List Value) : Nat → List Value → List Value
  | _, [] => []
  | o, z :: zs => tyAs (xs.getD o undef) z :: tyCells xs (o + 1) zs
def NeedEl (q : Sq) (o : Nat) (v : Value) : Prop := q.xs[o]? = some v ∧ isKid q o = false
def needEls (q : Sq) : Nat → List Value → List Prop
  | _, [] => []
  | o, z :: zs => NeedEl q o (tyAs (q.xs.getD o undef) z) :: needEls q (o + 1) zs
def loadE (E : Env) (s : St) (G : Guards) (t : TypeId) (x : Operand) : R2 :=
  match s.ev G x with
  | some (.own i off) => match s.box i with
    | some (_, cs) => match rowP E.P t with
      | some true => match sizeP E.P t with
        | some n => bif Nat.ble (off + n) cs.length then (match aggA ((cs.drop off).take n) with
          | some z => some (z, [])
          | none => none) else none
        | none => none
      | some false => match cs[off]? with
        | some c => match oneA c with
          | some z => some (z, [])
          | none => none
        | none => none
      | none => none
    | none => none
  | some (.ownx i base len k) => match s.box i with
    | some (_, cs) => match rowP E.P t with
      | some false => bif Nat.ble (base + len) cs.length then (match rawL ((cs.drop base).take len) with
        | some xs => match selV k 0 xs with
          | some v => some (.v v, [k < len])
          | none => none
        | none => none) else none
      | _ => none
    | none => none
  | some (.v (.pointer (some ad))) => match (E.P.info? t).bind (·.zero) with
    | some z => match rowP E.P t with
      | some true => match sizeP E.P t with
        | some n => bif Nat.beq n z.cells.toList.length then some (.v (.agg (rdCells E.w0 ad 0 z.cells.toList).toArray), needCells E ad 0 z.cells.toList) else none
        | none => none
      | some false => some (.v (rdAs E.w0 ad z), [NeedAt E ad (rdAs E.w0 ad z)])
      | none => none
    | none => none
  | some (.el k off) => match s.seq k with
    | some q => match (E.P.info? t).bind (·.zero) with
      | some z => match rowP E.P t with
        | some true => match sizeP E.P t with
          | some n => bif Nat.beq n z.cells.toList.length then some (.v (.agg (tyCells q.xs off z.cells.toList).toArray), needEls q off z.cells.toList) else none
          | none => none
        | some false => some (.v (tyAs (q.xs.getD off undef) z), [NeedEl q off (tyAs (q.xs.getD off undef) z)])
        | none => none
      | none => none
    | none => none
  | _ => none

def minmaxE (s : St) (G : Guards) (b : Builtin) (args : List Operand) : Option Value :=
  match args with
  | [x, y] => match s.raw G x, s.raw G y with
    | some (.int k a), some (.int _ c) => match b with
      | .max => some (.int k (max a c))
      | .min => some (.int k (min a c))
      | _ => none
    | _, _ => none
  | _ => none

def evAll (s : St) (G : Guards) : List Operand → Option (List AV)
  | [] => some []
  | o :: r => match s.ev G o with
    | some x => match evAll s G r with
      | some xs => some (x :: xs)
      | none => none
    | none => none

def goesB (P : Program) (f : FuncId) : Bool := match P.funcs[f]? with
  | some fn => fn.body.isSome && !(fn.name == "runtime.NumGoroutine")
  | none => false

/-- A call that hands back a plain value. -/
def plainC : Option CRes → R2
  | some (.v v, [], ps) => some (.v v, ps)
  | _ => none
def callE (E : Env) (s : St) (G : Guards) (f : FuncId) (args : List Operand) : R2 :=
  match evAll s G args with
  | some xs => bif goesB E.P f then plainC (E.C f xs s.b s.q) else none
  | none => none
def rawAVs : List Value → List AV
  | [] => []
  | x :: r => .v x :: rawAVs r
/-- A call through a function value. -/
def callVE (E : Env) (s : St) (G : Guards) (f : Operand) (args : List Operand) : R2 :=
  match s.raw G f with
  | some (.func (.func g) first captured) => match evAll s G args with
    | some xs => bif goesB E.P g then plainC (E.C g (rawAVs first.toList ++ xs ++ rawAVs captured.toList) s.b s.q) else none
    | none => none
  | _ => none

def eqE (E : Env) (s : St) (G : Guards) (t : TypeId) (x y : Operand) : Option (Option Bool) :=
  match s.raw G x, s.raw G y with
  | some (.agg xs), some (.agg ys) => some (E.eq t xs.toList ys.toList)
  | _, _ => none

def lenE (E : Env) (s : St) (G : Guards) (args : List Operand) (ts : Array TypeId) : Option AV :=
  match args with
  | [x] => match s.ev G x with
    | some (.osl _ len _) => match ts[0]? with
      | some t => match E.P.underlying t with
        | some (.slice _) => some (.v (.int .i64 len))
        | _ => none
      | none => none
    | some (.sq k) => match s.seq k with
      | some q => match ts[0]? with
        | some t => match E.P.underlying t with
          | some (.slice _) => some (.v (.int .i64 q.n))
          | _ => none
        | none => none
      | none => none
    | _ => none
  | _ => none
/-- A part of a tuple. -/
def extractE (s : St) (G : Guards) (x : Operand) (ix : Nat) : Option (Option AV) := match s.ev G x with
  | some (.tup xs) => match xs[ix]? with
    | some (.one c) => some (oneA c)
    | some (.agg cs) => some (aggA cs)
    | none => some none
  | _ => none

/-- Bytes to a string. -/
def NeedBytes (xs : List Value) : Prop := xs = (xs.map tyI).map (Value.int .u8)
def bytesE (E : Env) (s : St) (G : Guards) (src dst : TypeId) (x : Operand) : Option R2 := match s.ev G x with
  | some (.sq k) => match s.seq k with
    | some q => match q.kid with
      | none => bif Nat.beq q.size 1 then (match E.P.underlying src, E.P.underlying dst with
        | some (.slice e), some .string => match E.P.underlying e with
          | some (.int .u8) => some (some (.v (.string (strOfNums (q.xs.map tyI))), [NeedBytes q.xs]))
          | _ => some none
        | _, _ => some none) else some none
      | some _ => some none
    | none => some none
  | _ => none
def pureR (E : Env) (s : St) (G : Guards) (o : Oper) : R2 := match pureE E.P s G o with
  | some y => some (.v y, [])
  | none => none

/-- The operations that leave the world alone, or let it grow by a call. -/
def valE (E : Env) (s : St) (G : Guards) (o : Oper) : R2 :=
  match o.op with
  | .move x | .assign x => match s.ev G x with
    | some z => some (z, [])
    | none => none
  | .pick c x y => match pickE s G c x y with
    | some z => some (.v z, [])
    | none => none
  | .extract x ix => match extractE s G x ix with
    | some (some z) => some (z, [])
    | some none => none
    | none => pureR E s G o
  | .fieldAddr t x f => fieldE E s G t x f
  | .indexAddr t x i => indexE E s G t x i
  | .load t x => loadE E s G t x
  | .call { callee := .value (.func f), args, .. } => callE E s G f args.toList
  | .call { callee := .value f, args, .. } => callVE E s G f args.toList
  | .call { callee := .builtin .len, args, argTypes } => match lenE E s G args.toList argTypes with
    | some z => some (z, [])
    | none => pureR E s G o
  | .call { callee := .builtin .max, args, .. } => match minmaxE s G .max args.toList with
    | some z => some (.v z, [])
    | none => none
  | .call { callee := .builtin .min, args, .. } => match minmaxE s G .min args.toList with
    | some z => some (.v z, [])
    | none => none
  | .convert src dst x => match bytesE E s G src dst x with
    | some r => r
    | none => pureR E s G o
  | .binOp .eql t x y _ => match eqE E s G t x y with
    | some (some b) => some (.v (.bool b), [])
    | some none => none
    | none => pureR E s G o
  | .binOp .neq t x y _ => match eqE E s G t x y with
    | some (some b) => some (.v (.bool !b), [])
    | some none => none
    | none => pureR E s G o
  | _ => pureR E s G o

def oneL : List Value → Bool
  | [] => true
  | x :: r => bif x.oneCell' then oneL r else false
theorem oneL_ok : ∀ {l : List Value}, oneL l = true → ∀ c ∈ l, c.oneCell' = true
  | [], _, _, h => by cases h
  | x :: r, h, c, hc => by
    unfold oneL at h
    cases hx : x.oneCell' with
    | false => rw [hx] at h; cases h
    | true =>
      rw [hx] at h
      rcases List.mem_cons.1 hc with rfl | hc
      · exact hx
      · exact oneL_ok h c hc

/-- The cells of a value. -/
def cellsA (s : St) : AV → Option (List LV)
  | .v x => some (toL x.cells.toList)
  | .sq k => match s.seq k with
    | some _ => some [.sq k]
    | none => none
  | .agg cs => some cs
  | _ => none
def oneLV (s : St) : List LV → Bool
  | [] => true
  | .v x :: r => bif x.oneCell' then oneLV s r else false
  | .sq k :: r => match s.seq k with
    | some _ => oneLV s r
    | none => false
  | .dead :: _ => false

def setE (E : Env) (s : St) (G : Guards) (t : TypeId) (x y : Operand) : Option (Eff × List Prop) :=
  match s.ev G y with
  | some v => match cellsA s v with
    | some us => match s.ev G x with
      | some (.own i off) => match s.box i with
        | some (e, cs) => match sizeP E.P t with
          | some n => bif Nat.beq n us.length then (bif oneLV s us then (bif Nat.ble (off + n) cs.length then
              some (.set i e (cs.take off ++ us ++ cs.drop (off + n)), []) else none) else none) else none
          | none => none
        | none => none
      | some (.ownx i base len k) => match s.box i with
        | some (e, cs) => match sizeP E.P t, us with
          | some 1, [.v u] => bif u.oneCell' then (bif Nat.ble (base + len) cs.length then (match rawL ((cs.drop base).take len) with
              | some xs => match setV k u 0 xs with
                | some zs => some (.set i e (cs.take base ++ toL zs ++ cs.drop (base + len)), [k < len])
                | none => none
              | none => none) else none) else none
          | _, _ => none
        | none => none
      | _ => none
    | none => none
  | none => none

def rawParts (s : St) (G : Guards) : List (Nat × Operand) → Option (List (Nat × Value))
  | [] => some []
  | (i, o) :: r => match s.raw G o with
    | some v => match rawParts s G r with
      | some l => some ((i, v) :: l)
      | none => none
    | none => none

/-- A slice's row, by the model's own words. -/
def sliceCells (P : Program) (t : TypeId) (len : Nat) (parts : List (Nat × Value)) : Option (TypeId × List Value) :=
  match P.underlying t with
  | some (.slice e) => match P.info? e with
    | some i => match i.zero with
      | some z => bif Nat.ble (len * i.size) 16777216 then (bif Nat.beq (len * i.size) 0 then none else
          match Instr.fill (fun j => some (j * i.size, i.size)) ((Array.range (len * i.size)).map (z.cells[· % z.cells.size]!)) parts with
          | some cells => some (e, cells.toList)
          | none => none) else none
      | none => none
    | none => none
  | _ => none

def allocE (E : Env) (dst : Option Tmp) (e : TypeId) : Option (Eff × List Prop) := match dst with
  | some d => match (E.P.info? e).bind (·.zero) with
    | some z => some (.box e (toL z.cells.toList) (.own d 0), [])
    | none => none
  | none => none
def boxE (s : St) (G : Guards) (dst : Option Tmp) (e : TypeId) (x : Operand) : Option (Eff × List Prop) := match dst with
  | some d => match s.ev G x with
    | some v => match cellsA s v with
      | some cs => some (.box e cs (.own d 0), [])
      | none => none
    | none => none
  | none => none
/-- A slice written out: its elements' cells, when they are all there. -/
def catL (s : St) (G : Guards) (n : Nat) : Nat → List (Nat × Operand) → Option (List LV)
  | _, [] => some []
  | j, (i, o) :: r => bif Nat.beq i j then (match s.ev G o with
    | some v => match cellsA s v with
      | some cs => bif Nat.beq cs.length n then (match catL s G n (j + 1) r with
        | some l => some (cs ++ l)
        | none => none) else none
      | none => none
    | none => none) else none
def sliceE (E : Env) (s : St) (G : Guards) (dst : Option Tmp) (t : TypeId) (len : Nat) (parts : List (Nat × Operand)) : Option (Eff × List Prop) := match dst with
  | some d => match rawParts s G parts with
    | some ps => match sliceCells E.P t len ps with
      | some (e, cs) => some (.box e (toL cs) (.osl d len len), [])
      | none => match E.P.underlying t with
        | some (.slice e) => match sizeP E.P e with
          | some sz => match ps with
            | [] => bif Nat.beq len 0 then some (.more (.sq 0) [⟨true, e, sz, 0, [], none⟩] none, []) else none
            | _ => none
          | none => none
        | _ => none
    | none => none
  | none => none

/-- What is appended: how many elements, their cells. -/
def newsE (s : St) (sz : Nat) : AV → Option (Nat × List Value)
  | .v (.slice none 0 _) => some (0, [])
  | .osl i len cap => match s.box i with
    | some (_, cs) => match rawL cs with
      | some xs => bif Nat.beq xs.length (len * sz) then (bif Nat.ble len cap then some (len, xs) else none) else none
      | none => none
    | none => none
  | .sq k => match s.seq k with
    | some q => match q.kid with
      | none => bif Nat.beq q.size sz then some (q.n, q.xs) else none
      | some _ => none
    | none => none
  | _ => none
def sideB (E : Env) (e : TypeId) (sz : Nat) : Bool := match E.P.info? e with
  | some i => match i.zero with
    | some z => Nat.beq i.size sz && Nat.beq z.cells.size sz && Nat.blt 0 sz
    | none => false
  | none => false
def bytesP (P : Program) (e : TypeId) : Nat := match P.info? e with
  | some i => i.bytes
  | none => 0
/-- append(x, y...) -/
def appE (E : Env) (s : St) (G : Guards) (ts : Array TypeId) (x y : Operand) : Option (Eff × List Prop) :=
  match ts.toList with
  | [t, t'] => bif Nat.beq t t' then (match E.P.underlying t with
    | some (.slice e) => match sizeP E.P e with
      | some sz => bif sideB E e sz then (match s.ev G y with
        | some w => match newsE s sz w with
          | some (m, us) => match s.ev G x with
            | some (.sq k) => match s.seq k with
              | some q => match q.own, q.kid with
                | true, none => bif Nat.beq q.e e then (bif Nat.beq q.size sz then some (.more (.sq 0) [⟨true, e, sz, q.n + m, q.xs ++ us, none⟩] (some k),
                    [q.n + m ≤ maxLen ∧ (q.n + m) * bytesP E.P e ≤ 140737488355328, ∀ u ∈ us, u.oneCell' = true]) else none) else none
                | _, _ => none
              | none => none
            | some (.v (.slice none 0 0)) => some (.more (.sq 0) [⟨true, e, sz, 0 + m, [] ++ us, none⟩] none,
                [0 + m ≤ maxLen ∧ (0 + m) * bytesP E.P e ≤ 140737488355328, ∀ u ∈ us, u.oneCell' = true])
            | _ => none
          | none => none
        | none => none) else none
      | none => none
    | _ => none) else none
  | _ => none

def isU8z : Option Value → Bool
  | some (.int .u8 (.ofNat 0)) => true
  | _ => false
def u8B (E : Env) (e : TypeId) : Bool := match E.P.info? e with
  | some i => Nat.beq i.size 1 && Nat.beq i.bytes 1 && isU8z i.zero
  | none => false
/-- append(x, s...), s a string -/
def appS (E : Env) (s : St) (G : Guards) (t u : TypeId) (x y : Operand) : Option (Eff × List Prop) :=
  match E.P.underlying t, E.P.underlying u with
  | some (.slice e), some .string => bif u8B E e then (match s.raw G y with
    | some (.string b) => match s.ev G x with
      | some (.sq k) => match s.seq k with
        | some q => match q.own, q.kid with
          | true, none => bif Nat.beq q.e e then (bif Nat.beq q.size 1 then some (.more (.sq 0) [⟨true, e, 1, q.n + b.size, q.xs ++ Lib.strCells b, none⟩] (some k),
              [q.n + b.size ≤ maxLen ∧ q.n + b.size ≤ 140737488355328]) else none) else none
          | _, _ => none
        | none => none
      | some (.v (.slice none 0 0)) => some (.more (.sq 0) [⟨true, e, 1, 0 + b.size, [] ++ Lib.strCells b, none⟩] none, [0 + b.size ≤ maxLen ∧ 0 + b.size ≤ 140737488355328])
      | _ => none
    | _ => none) else none
  | _, _ => none
def appE2 (E : Env) (s : St) (G : Guards) (ts : Array TypeId) (x y : Operand) : Option (Eff × List Prop) := match ts.toList with
  | [t, u] => bif Nat.beq t u then appE E s G ts x y else appS E s G t u x y
  | _ => none

/-- A call that hands back sequences. -/
def callM (E : Env) (s : St) (G : Guards) (f : FuncId) (args : List Operand) : Option (Eff × List Prop) :=
  match evAll s G args with
  | some xs => bif goesB E.P f then (match E.C f xs s.b s.q with
    | some (c, news, ps) => match news with
      | [] => match c with
        | .v v => some (.val (.v v), ps)
        | _ => none
      | q :: r => bif c.simple then some (.more c (q :: r) none, ps) else none
    | none => none) else none
  | none => none

def valEff (E : Env) (s : St) (G : Guards) (o : Oper) : Option (Eff × List Prop) := match valE E s G o with
  | some (x, ps) => some (.val x, ps)
  | none => none
def effE (E : Env) (s : St) (G : Guards) (o : Oper) : Option (Eff × List Prop) :=
  match o.op with
  | .alloc e => allocE E o.dst e
  | .box e x => boxE s G o.dst e x
  | .buildSlice t len parts => sliceE E s G o.dst t len parts.toList
  | .store t x y => match o.dst with
    | none => setE E s G t x y
    | some _ => none
  | .call { callee := .value (.func f), args, .. } => callM E s G f args.toList
  | .call { callee := .builtin .append, args, argTypes } => match args.toList with
    | [x, y] => appE2 E s G argTypes x y
    | _ => none
  | _ => valEff E s G o
end Go.Proofs.Yteebobbhhgmeiaa
