/- Typed data: what lies in a row of memory, as Lean data. -/
import Derived.Test.YteebobbhhgmeiaaHas
namespace Go.Proofs.Yteebobbhhgmeiaa
open Go.RowKit

structure TVec where
  a : Int
  b : Int
structure TStamp where
  n : Int
  site : Int
structure TCell where
  stamp : TStamp
  vec : TVec
  gone : Bool
  value : ByteArray
  dead : TVec
structure TRow where
  key : ByteArray
  cells : List TCell
structure TGroup where
  name : ByteArray
  policy : Int
structure TWrite where
  key : ByteArray
  group : Int
  gone : Bool
  value : ByteArray
structure TChange where
  site : Int
  seq : Int
  stamp : TStamp
  vec : TVec
  writes : List TWrite
structure TField where
  group : Int
  value : ByteArray
structure TView where
  key : ByteArray
  fields : List TField
structure TTold where
  ack : Int
  own : Int
  come : Int
structure TAct where
  kind : Int
  row : TRow
  til : ByteArray
  n : Int
structure TFront where
  site : Int
  acked : Int
  stable : Int
  wait : Int
  til : Int
structure TAsk where
  stamp : TStamp
  vec : TVec
  gone : Bool
  value : ByteArray
structure TTwo where
  row : TRow
  group : Int
  cell : TCell
structure TNote where
  name : ByteArray
  text : ByteArray
structure TPacket where
  src : Int
  bytes : ByteArray
structure TPlace where
  key : ByteArray
  group : Int
inductive TC where
  | u8 | i64 | u32 | bool | str | vec | stamp | cell | row | group | write | change | field | view | told | act | front | ask | two | note | packet | place | bytes | ints | cells | rows | digest
abbrev U : TC → Type
  | .u8 => UInt8
  | .i64 => Int
  | .u32 => Int
  | .bool => Bool
  | .str => ByteArray
  | .vec => TVec
  | .stamp => TStamp
  | .cell => TCell
  | .row => TRow
  | .group => TGroup
  | .write => TWrite
  | .change => TChange
  | .field => TField
  | .view => TView
  | .told => TTold
  | .act => TAct
  | .front => TFront
  | .ask => TAsk
  | .two => TTwo
  | .note => TNote
  | .packet => TPacket
  | .place => TPlace
  | .bytes => List UInt8
  | .ints => List Int
  | .cells => List TCell
  | .rows => List TRow
  | .digest => List UInt8
def dflt : (c : TC) → U c
  | .u8 => (0 : UInt8)
  | .i64 => (0 : Int)
  | .u32 => (0 : Int)
  | .bool => (false : Bool)
  | .str => (ByteArray.empty : ByteArray)
  | .vec => (⟨0, 0⟩ : TVec)
  | .stamp => (⟨0, 0⟩ : TStamp)
  | .cell => (⟨⟨0, 0⟩, ⟨0, 0⟩, false, ByteArray.empty, ⟨0, 0⟩⟩ : TCell)
  | .row => (⟨ByteArray.empty, []⟩ : TRow)
  | .group => (⟨ByteArray.empty, 0⟩ : TGroup)
  | .write => (⟨ByteArray.empty, 0, false, ByteArray.empty⟩ : TWrite)
  | .change => (⟨0, 0, ⟨0, 0⟩, ⟨0, 0⟩, []⟩ : TChange)
  | .field => (⟨0, ByteArray.empty⟩ : TField)
  | .view => (⟨ByteArray.empty, []⟩ : TView)
  | .told => (⟨0, 0, 0⟩ : TTold)
  | .act => (⟨0, ⟨ByteArray.empty, []⟩, ByteArray.empty, 0⟩ : TAct)
  | .front => (⟨0, 0, 0, 0, 0⟩ : TFront)
  | .ask => (⟨⟨0, 0⟩, ⟨0, 0⟩, false, ByteArray.empty⟩ : TAsk)
  | .two => (⟨⟨ByteArray.empty, []⟩, 0, ⟨⟨0, 0⟩, ⟨0, 0⟩, false, ByteArray.empty, ⟨0, 0⟩⟩⟩ : TTwo)
  | .note => (⟨ByteArray.empty, ByteArray.empty⟩ : TNote)
  | .packet => (⟨0, ByteArray.empty⟩ : TPacket)
  | .place => (⟨ByteArray.empty, 0⟩ : TPlace)
  | .bytes => ([] : List UInt8)
  | .ints => ([] : List Int)
  | .cells => ([] : List TCell)
  | .rows => ([] : List TRow)
  | .digest => ([] : List UInt8)
/-- How many cells. -/
def size : TC → Nat
  | .u8 => 1
  | .i64 => 1
  | .u32 => 1
  | .bool => 1
  | .str => 1
  | .vec => 2
  | .stamp => 2
  | .cell => 8
  | .row => 2
  | .group => 2
  | .write => 4
  | .change => 7
  | .field => 2
  | .view => 2
  | .told => 3
  | .act => 5
  | .front => 5
  | .ask => 6
  | .two => 11
  | .note => 2
  | .packet => 2
  | .place => 2
  | .bytes => 1
  | .ints => 1
  | .cells => 1
  | .rows => 1
  | .digest => 32
/-- In more cells than one, or a struct: as a value an aggregate. -/
def TC.isAgg : TC → Bool
  | .u8 => false
  | .i64 => false
  | .u32 => false
  | .bool => false
  | .str => false
  | .vec => true
  | .stamp => true
  | .cell => true
  | .row => true
  | .group => true
  | .write => true
  | .change => true
  | .field => true
  | .view => true
  | .told => true
  | .act => true
  | .front => true
  | .ask => true
  | .two => true
  | .note => true
  | .packet => true
  | .place => true
  | .bytes => false
  | .ints => false
  | .cells => false
  | .rows => false
  | .digest => true
def TC.same : (c c' : TC) → Option (PLift (c = c'))
  | .u8, .u8 => some ⟨rfl⟩
  | .i64, .i64 => some ⟨rfl⟩
  | .u32, .u32 => some ⟨rfl⟩
  | .bool, .bool => some ⟨rfl⟩
  | .str, .str => some ⟨rfl⟩
  | .vec, .vec => some ⟨rfl⟩
  | .stamp, .stamp => some ⟨rfl⟩
  | .cell, .cell => some ⟨rfl⟩
  | .row, .row => some ⟨rfl⟩
  | .group, .group => some ⟨rfl⟩
  | .write, .write => some ⟨rfl⟩
  | .change, .change => some ⟨rfl⟩
  | .field, .field => some ⟨rfl⟩
  | .view, .view => some ⟨rfl⟩
  | .told, .told => some ⟨rfl⟩
  | .act, .act => some ⟨rfl⟩
  | .front, .front => some ⟨rfl⟩
  | .ask, .ask => some ⟨rfl⟩
  | .two, .two => some ⟨rfl⟩
  | .note, .note => some ⟨rfl⟩
  | .packet, .packet => some ⟨rfl⟩
  | .place, .place => some ⟨rfl⟩
  | .bytes, .bytes => some ⟨rfl⟩
  | .ints, .ints => some ⟨rfl⟩
  | .cells, .cells => some ⟨rfl⟩
  | .rows, .rows => some ⟨rfl⟩
  | .digest, .digest => some ⟨rfl⟩
  | _, _ => none
theorem TC.same_self (c : TC) : TC.same c c = some ⟨rfl⟩ := by cases c <;> rfl
def castL {c c' : TC} (h : c = c') (l : List (U c)) : List (U c') := h ▸ l
def byteV (b : UInt8) : Value := .int .u8 b.toNat

/-- What a slot or a cell holds. -/
inductive A where
  | v (x : Value)
  | sl (c : TC) (l : List (U c))
  | ref (l : List A)
  | own (i off : Nat)
  | ownx (i base len k : Nat)
  | sq (i : Nat)
  | vw (i size lo n : Nat) (full : Bool)
  | el (i k size off : Nat)
  | mp (i : Nat)
  | nl
  | it (q : Bool) (vs : List Value)
  | fn (f : FuncId) (first caps : List A)
  | agg (xs : List A)
  | tup (xs : List A)
  | opt (u : Nat) (b : Bool) (x : A)
  | dead

/-- The cells of a datum. -/
def enc : (c : TC) → U c → List A
  | .u8, (x : UInt8) => [.v (byteV x)]
  | .i64, (x : Int) => [.v (.int .i64 x)]
  | .u32, (x : Int) => [.v (.int .u32 x)]
  | .bool, (x : Bool) => [.v (.bool x)]
  | .str, (x : ByteArray) => [.v (.string x)]
  | .vec, (x : TVec) => [.v (.int .i64 x.a), .v (.int .i64 x.b)]
  | .stamp, (x : TStamp) => [.v (.int .i64 x.n), .v (.int .i64 x.site)]
  | .cell, (x : TCell) => [.v (.int .i64 x.stamp.n), .v (.int .i64 x.stamp.site), .v (.int .i64 x.vec.a), .v (.int .i64 x.vec.b), .v (.bool x.gone), .v (.string x.value), .v (.int .i64 x.dead.a), .v (.int .i64 x.dead.b)]
  | .row, (x : TRow) => [.v (.string x.key), .sl .cell x.cells]
  | .group, (x : TGroup) => [.v (.string x.name), .v (.int .i64 x.policy)]
  | .write, (x : TWrite) => [.v (.string x.key), .v (.int .i64 x.group), .v (.bool x.gone), .v (.string x.value)]
  | .change, (x : TChange) => [.v (.int .i64 x.site), .v (.int .i64 x.seq), .v (.int .i64 x.stamp.n), .v (.int .i64 x.stamp.site), .v (.int .i64 x.vec.a), .v (.int .i64 x.vec.b), .sl .write x.writes]
  | .field, (x : TField) => [.v (.int .i64 x.group), .v (.string x.value)]
  | .view, (x : TView) => [.v (.string x.key), .sl .field x.fields]
  | .told, (x : TTold) => [.v (.int .i64 x.ack), .v (.int .i64 x.own), .v (.int .i64 x.come)]
  | .act, (x : TAct) => [.v (.int .i64 x.kind), .v (.string x.row.key), .sl .cell x.row.cells, .v (.string x.til), .v (.int .i64 x.n)]
  | .front, (x : TFront) => [.v (.int .i64 x.site), .v (.int .i64 x.acked), .v (.int .i64 x.stable), .v (.int .i64 x.wait), .v (.int .i64 x.til)]
  | .ask, (x : TAsk) => [.v (.int .i64 x.stamp.n), .v (.int .i64 x.stamp.site), .v (.int .i64 x.vec.a), .v (.int .i64 x.vec.b), .v (.bool x.gone), .v (.string x.value)]
  | .two, (x : TTwo) => [.v (.string x.row.key), .sl .cell x.row.cells, .v (.int .i64 x.group), .v (.int .i64 x.cell.stamp.n), .v (.int .i64 x.cell.stamp.site), .v (.int .i64 x.cell.vec.a), .v (.int .i64 x.cell.vec.b), .v (.bool x.cell.gone), .v (.string x.cell.value), .v (.int .i64 x.cell.dead.a), .v (.int .i64 x.cell.dead.b)]
  | .note, (x : TNote) => [.v (.string x.name), .v (.string x.text)]
  | .packet, (x : TPacket) => [.v (.int .i64 x.src), .v (.string x.bytes)]
  | .place, (x : TPlace) => [.v (.string x.key), .v (.int .i64 x.group)]
  | .bytes, (x : List UInt8) => [.sl .u8 x]
  | .ints, (x : List Int) => [.sl .i64 x]
  | .cells, (x : List TCell) => [.sl .cell x]
  | .rows, (x : List TRow) => [.sl .row x]
  | .digest, (x : List UInt8) => [.v (byteV (x.getD 0 0)), .v (byteV (x.getD 1 0)), .v (byteV (x.getD 2 0)), .v (byteV (x.getD 3 0)), .v (byteV (x.getD 4 0)), .v (byteV (x.getD 5 0)), .v (byteV (x.getD 6 0)), .v (byteV (x.getD 7 0)), .v (byteV (x.getD 8 0)), .v (byteV (x.getD 9 0)), .v (byteV (x.getD 10 0)), .v (byteV (x.getD 11 0)), .v (byteV (x.getD 12 0)), .v (byteV (x.getD 13 0)), .v (byteV (x.getD 14 0)), .v (byteV (x.getD 15 0)), .v (byteV (x.getD 16 0)), .v (byteV (x.getD 17 0)), .v (byteV (x.getD 18 0)), .v (byteV (x.getD 19 0)), .v (byteV (x.getD 20 0)), .v (byteV (x.getD 21 0)), .v (byteV (x.getD 22 0)), .v (byteV (x.getD 23 0)), .v (byteV (x.getD 24 0)), .v (byteV (x.getD 25 0)), .v (byteV (x.getD 26 0)), .v (byteV (x.getD 27 0)), .v (byteV (x.getD 28 0)), .v (byteV (x.getD 29 0)), .v (byteV (x.getD 30 0)), .v (byteV (x.getD 31 0))]
theorem enc_length (c : TC) (d : U c) : (enc c d).length = size c := by cases c <;> rfl
def A.plainCell : A → Prop
  | .v x => x.oneCell' = true
  | .sl _ _ => True
  | _ => False
theorem enc_plain (c : TC) (d : U c) : ∀ x ∈ enc c d, x.plainCell := by
  cases c <;> (intro x hx; simp only [enc, List.mem_cons, List.not_mem_nil, or_false] at hx; repeat' (rcases hx with rfl | hx)) <;> first | trivial | rfl | (subst hx; trivial) | (subst hx; rfl)

/-! ### cells read back as data -/
abbrev Got (α : Type) := Option (α × List A × List Prop)
def gI : List A → List Prop → Got Int
  | .v (.int .i64 n) :: r, ps => some (n, r, ps)
  | _, _ => none
def gW : List A → List Prop → Got Int
  | .v (.int .u32 n) :: r, ps => some (n, r, ps)
  | _, _ => none
def gB : List A → List Prop → Got Bool
  | .v (.bool b) :: r, ps => some (b, r, ps)
  | _, _ => none
def gT : List A → List Prop → Got ByteArray
  | .v (.string s) :: r, ps => some (s, r, ps)
  | _, _ => none
def gU : List A → List Prop → Got UInt8
  | .v (.int .u8 n) :: r, ps => some (UInt8.ofNat n.toNat, r, (0 ≤ n ∧ n < 256) :: ps)
  | _, _ => none
def gL (c : TC) : List A → List Prop → Got (List (U c))
  | .sl c' l :: r, ps => match TC.same c' c with
    | some h => some (castL h.down l, r, ps)
    | none => none
  | .v (.slice none 0 0) :: r, ps => some ([], r, ps)
  | .nl :: r, ps => some ([], r, ps)
  | _, _ => none

def Got.thn {α β : Type} : Got α → (α → List A → List Prop → Option β) → Option β
  | none, _ => none
  | some (x, r, ps), f => f x r ps
def fin {α : Type} : List A → α → List Prop → Option (α × List Prop)
  | [], x, ps => some (x, ps)
  | _ :: _, _, _ => none
def dec : (c : TC) → List A → Option (U c × List Prop)
  | .u8, cs => (gU cs []).thn fun x0 r ps => fin r (x0 : UInt8) ps
  | .i64, cs => (gI cs []).thn fun x0 r ps => fin r (x0 : Int) ps
  | .u32, cs => (gW cs []).thn fun x0 r ps => fin r (x0 : Int) ps
  | .bool, cs => (gB cs []).thn fun x0 r ps => fin r (x0 : Bool) ps
  | .str, cs => (gT cs []).thn fun x0 r ps => fin r (x0 : ByteArray) ps
  | .vec, cs => (gI cs []).thn fun x0 r ps => (gI r ps).thn fun x1 r ps => fin r (⟨x0, x1⟩ : TVec) ps
  | .stamp, cs => (gI cs []).thn fun x0 r ps => (gI r ps).thn fun x1 r ps => fin r (⟨x0, x1⟩ : TStamp) ps
  | .cell, cs => (gI cs []).thn fun x0 r ps => (gI r ps).thn fun x1 r ps => (gI r ps).thn fun x2 r ps => (gI r ps).thn fun x3 r ps => (gB r ps).thn fun x4 r ps => (gT r ps).thn fun x5 r ps => (gI r ps).thn fun x6 r ps => (gI r ps).thn fun x7 r ps => fin r (⟨⟨x0, x1⟩, ⟨x2, x3⟩, x4, x5, ⟨x6, x7⟩⟩ : TCell) ps
  | .row, cs => (gT cs []).thn fun x0 r ps => (gL .cell r ps).thn fun x1 r ps => fin r (⟨x0, x1⟩ : TRow) ps
  | .group, cs => (gT cs []).thn fun x0 r ps => (gI r ps).thn fun x1 r ps => fin r (⟨x0, x1⟩ : TGroup) ps
  | .write, cs => (gT cs []).thn fun x0 r ps => (gI r ps).thn fun x1 r ps => (gB r ps).thn fun x2 r ps => (gT r ps).thn fun x3 r ps => fin r (⟨x0, x1, x2, x3⟩ : TWrite) ps
  | .change, cs => (gI cs []).thn fun x0 r ps => (gI r ps).thn fun x1 r ps => (gI r ps).thn fun x2 r ps => (gI r ps).thn fun x3 r ps => (gI r ps).thn fun x4 r ps => (gI r ps).thn fun x5 r ps => (gL .write r ps).thn fun x6 r ps => fin r (⟨x0, x1, ⟨x2, x3⟩, ⟨x4, x5⟩, x6⟩ : TChange) ps
  | .field, cs => (gI cs []).thn fun x0 r ps => (gT r ps).thn fun x1 r ps => fin r (⟨x0, x1⟩ : TField) ps
  | .view, cs => (gT cs []).thn fun x0 r ps => (gL .field r ps).thn fun x1 r ps => fin r (⟨x0, x1⟩ : TView) ps
  | .told, cs => (gI cs []).thn fun x0 r ps => (gI r ps).thn fun x1 r ps => (gI r ps).thn fun x2 r ps => fin r (⟨x0, x1, x2⟩ : TTold) ps
  | .act, cs => (gI cs []).thn fun x0 r ps => (gT r ps).thn fun x1 r ps => (gL .cell r ps).thn fun x2 r ps => (gT r ps).thn fun x3 r ps => (gI r ps).thn fun x4 r ps => fin r (⟨x0, ⟨x1, x2⟩, x3, x4⟩ : TAct) ps
  | .front, cs => (gI cs []).thn fun x0 r ps => (gI r ps).thn fun x1 r ps => (gI r ps).thn fun x2 r ps => (gI r ps).thn fun x3 r ps => (gI r ps).thn fun x4 r ps => fin r (⟨x0, x1, x2, x3, x4⟩ : TFront) ps
  | .ask, cs => (gI cs []).thn fun x0 r ps => (gI r ps).thn fun x1 r ps => (gI r ps).thn fun x2 r ps => (gI r ps).thn fun x3 r ps => (gB r ps).thn fun x4 r ps => (gT r ps).thn fun x5 r ps => fin r (⟨⟨x0, x1⟩, ⟨x2, x3⟩, x4, x5⟩ : TAsk) ps
  | .two, cs => (gT cs []).thn fun x0 r ps => (gL .cell r ps).thn fun x1 r ps => (gI r ps).thn fun x2 r ps => (gI r ps).thn fun x3 r ps => (gI r ps).thn fun x4 r ps => (gI r ps).thn fun x5 r ps => (gI r ps).thn fun x6 r ps => (gB r ps).thn fun x7 r ps => (gT r ps).thn fun x8 r ps => (gI r ps).thn fun x9 r ps => (gI r ps).thn fun x10 r ps => fin r (⟨⟨x0, x1⟩, x2, ⟨⟨x3, x4⟩, ⟨x5, x6⟩, x7, x8, ⟨x9, x10⟩⟩⟩ : TTwo) ps
  | .note, cs => (gT cs []).thn fun x0 r ps => (gT r ps).thn fun x1 r ps => fin r (⟨x0, x1⟩ : TNote) ps
  | .packet, cs => (gI cs []).thn fun x0 r ps => (gT r ps).thn fun x1 r ps => fin r (⟨x0, x1⟩ : TPacket) ps
  | .place, cs => (gT cs []).thn fun x0 r ps => (gI r ps).thn fun x1 r ps => fin r (⟨x0, x1⟩ : TPlace) ps
  | .bytes, cs => (gL .u8 cs []).thn fun x0 r ps => fin r (x0 : List UInt8) ps
  | .ints, cs => (gL .i64 cs []).thn fun x0 r ps => fin r (x0 : List Int) ps
  | .cells, cs => (gL .cell cs []).thn fun x0 r ps => fin r (x0 : List TCell) ps
  | .rows, cs => (gL .row cs []).thn fun x0 r ps => fin r (x0 : List TRow) ps
  | .digest, cs => (gU cs []).thn fun x0 r ps => (gU r ps).thn fun x1 r ps => (gU r ps).thn fun x2 r ps => (gU r ps).thn fun x3 r ps => (gU r ps).thn fun x4 r ps => (gU r ps).thn fun x5 r ps => (gU r ps).thn fun x6 r ps => (gU r ps).thn fun x7 r ps => (gU r ps).thn fun x8 r ps => (gU r ps).thn fun x9 r ps => (gU r ps).thn fun x10 r ps => (gU r ps).thn fun x11 r ps => (gU r ps).thn fun x12 r ps => (gU r ps).thn fun x13 r ps => (gU r ps).thn fun x14 r ps => (gU r ps).thn fun x15 r ps => (gU r ps).thn fun x16 r ps => (gU r ps).thn fun x17 r ps => (gU r ps).thn fun x18 r ps => (gU r ps).thn fun x19 r ps => (gU r ps).thn fun x20 r ps => (gU r ps).thn fun x21 r ps => (gU r ps).thn fun x22 r ps => (gU r ps).thn fun x23 r ps => (gU r ps).thn fun x24 r ps => (gU r ps).thn fun x25 r ps => (gU r ps).thn fun x26 r ps => (gU r ps).thn fun x27 r ps => (gU r ps).thn fun x28 r ps => (gU r ps).thn fun x29 r ps => (gU r ps).thn fun x30 r ps => (gU r ps).thn fun x31 r ps => fin r ([x0, x1, x2, x3, x4, x5, x6, x7, x8, x9, x10, x11, x12, x13, x14, x15, x16, x17, x18, x19, x20, x21, x22, x23, x24, x25, x26, x27, x28, x29, x30, x31] : List UInt8) ps

theorem gI_ok {l r : List A} {ps qs : List Prop} {n : Int} (h : gI l ps = some (n, r, qs)) : l = .v (.int .i64 n) :: r ∧ qs = ps := by
  unfold gI at h; split at h <;> first | (cases h; exact ⟨rfl, rfl⟩) | (cases h; done)
theorem gW_ok {l r : List A} {ps qs : List Prop} {n : Int} (h : gW l ps = some (n, r, qs)) : l = .v (.int .u32 n) :: r ∧ qs = ps := by
  unfold gW at h; split at h <;> first | (cases h; exact ⟨rfl, rfl⟩) | (cases h; done)
theorem gB_ok {l r : List A} {ps qs : List Prop} {n : Bool} (h : gB l ps = some (n, r, qs)) : l = .v (.bool n) :: r ∧ qs = ps := by
  unfold gB at h; split at h <;> first | (cases h; exact ⟨rfl, rfl⟩) | (cases h; done)
theorem gT_ok {l r : List A} {ps qs : List Prop} {n : ByteArray} (h : gT l ps = some (n, r, qs)) : l = .v (.string n) :: r ∧ qs = ps := by
  unfold gT at h; split at h <;> first | (cases h; exact ⟨rfl, rfl⟩) | (cases h; done)
theorem gU_ok {l r : List A} {ps qs : List Prop} {n : UInt8} (h : gU l ps = some (n, r, qs)) (hq : ∀ q ∈ qs, q) : l = .v (byteV n) :: r ∧ ∀ q ∈ ps, q := by
  unfold gU at h
  split at h <;> first | (cases h; done) | skip
  rename_i m _
  cases h
  have h1 := hq _ (List.mem_cons_self ..)
  refine ⟨?_, fun q hm => hq q (List.mem_cons_of_mem _ hm)⟩
  have : ((UInt8.ofNat m.toNat).toNat : Int) = m := by
    rw [UInt8.toNat_ofNat']
    omega
  unfold byteV
  rw [this]
theorem gL_ok {c : TC} {l r : List A} {ps qs : List Prop} {n : List (U c)} (h : gL c l ps = some (n, r, qs)) : (l = .sl c n :: r ∨ ((l = .v (.slice none 0 0) :: r ∨ l = .nl :: r) ∧ n = [])) ∧ qs = ps := by
  unfold gL at h
  split at h <;> first | (cases h; done) | skip
  · rename_i c' m _ _
    split at h <;> first | (cases h; done) | skip
    rename_i hc _
    obtain ⟨hc⟩ := hc
    subst hc
    cases h
    exact ⟨.inl rfl, rfl⟩
  · cases h
    exact ⟨.inr ⟨.inl rfl, rfl⟩, rfl⟩
  · cases h
    exact ⟨.inr ⟨.inr rfl, rfl⟩, rfl⟩
end Go.Proofs.Yteebobbhhgmeiaa
