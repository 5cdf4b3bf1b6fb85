/- A symbolic run with sequences, part A: values, states, what a state says of a frame and a world. -/
import Derived.Test.YteebobbhhgmeiaaHas
import Derived.Laws.OwnMore
namespace Go.Proofs.Yteebobbhhgmeiaa
open Go.RowKit

/-- What a cell of a box holds. -/
inductive LV where
  | v (x : Value)
  | sq (k : Nat)
  | dead
/-- A part of a tuple. -/
inductive TV where
  | one (x : LV)
  | agg (xs : List LV)
/-- What a slot holds: a value; the address of a cell of a box of the call's own; a slice of such a box; a sequence; the address of a cell of one; parts, among them sequences; a value that is there if another slot holds a certain bool; nothing that is known. -/
inductive AV where
  | v (x : Value)
  | own (i off : Nat)
  | ownx (i base len k : Nat)
  | osl (i len cap : Nat)
  | sq (k : Nat)
  | el (k off : Nat)
  | agg (xs : List LV)
  | tup (xs : List TV)
  | opt (u : Nat) (b : Bool) (x : AV)
  | dead

/-- The slices that lie in a sequence's elements. -/
structure Kid where
  at_ : Nat
  e : TypeId
  size : Nat
  n : Nat → Nat
  xs : Nat → List Value
/-- A slice with what it holds. -/
structure Sq where
  own : Bool
  e : TypeId
  size : Nat
  n : Nat
  xs : List Value
  kid : Option Kid

abbrev Slots := List (Nat × AV)
abbrev Boxes := List (Nat × Option (TypeId × List LV))
abbrev Seqs := List (Nat × Option Sq)

def beqB : Bool → Bool → Bool
  | true, true => true
  | false, false => true
  | _, _ => false
theorem beqB_eq {a b : Bool} (h : beqB a b = true) : a = b := by cases a <;> cases b <;> first | rfl | cases h

def look (u : Nat) : Slots → Option AV
  | [] => none
  | (k, x) :: r => bif Nat.beq k u then some x else look u r
def lookB (i : Nat) : Boxes → Option (TypeId × List LV)
  | [] => none
  | (k, x) :: r => bif Nat.beq k i then x else lookB i r
def lookQ (i : Nat) : Seqs → Option Sq
  | [] => none
  | (k, x) :: r => bif Nat.beq k i then x else lookQ i r

def AV.dep (u : Nat) : AV → Bool
  | .opt k _ x => bif Nat.beq k u then true else x.dep u
  | _ => false
def AV.refs (i : Nat) : AV → Bool
  | .own k _ => Nat.beq k i
  | .ownx k _ _ _ => Nat.beq k i
  | .osl k _ _ => Nat.beq k i
  | .opt _ _ x => x.refs i
  | _ => false
def LV.refq (i : Nat) : LV → Bool
  | .sq k => Nat.beq k i
  | _ => false
def refqL (i : Nat) : List LV → Bool
  | [] => false
  | x :: r => bif x.refq i then true else refqL i r
def TV.refq (i : Nat) : TV → Bool
  | .one x => x.refq i
  | .agg xs => refqL i xs
def refqT (i : Nat) : List TV → Bool
  | [] => false
  | x :: r => bif x.refq i then true else refqT i r
def AV.refq (i : Nat) : AV → Bool
  | .sq k => Nat.beq k i
  | .el k _ => Nat.beq k i
  | .agg xs => refqL i xs
  | .tup xs => refqT i xs
  | .opt _ _ x => x.refq i
  | _ => false

structure St where
  n : Nat
  t : Slots
  b : Boxes
  q : Seqs

def kill (u : Nat) : Slots → Slots
  | [] => []
  | (k, x) :: r => (bif x.dep u then (k, .dead) else (k, x)) :: kill u r
def killBox (i : Nat) : Slots → Slots
  | [] => []
  | (k, x) :: r => (bif x.refs i then (k, .dead) else (k, x)) :: killBox i r
def killSq (i : Nat) : Slots → Slots
  | [] => []
  | (k, x) :: r => (bif x.refq i then (k, .dead) else (k, x)) :: killSq i r
def killL (i : Nat) : List LV → List LV
  | [] => []
  | x :: r => (bif x.refq i then .dead else x) :: killL i r
def killBs (i : Nat) : Boxes → Boxes
  | [] => []
  | (k, none) :: r => (k, none) :: killBs i r
  | (k, some (e, cs)) :: r => (k, some (e, killL i cs)) :: killBs i r

def St.get (s : St) (u : Nat) : Option AV := look u s.t
def St.box (s : St) (i : Nat) : Option (TypeId × List LV) := lookB i s.b
def St.seq (s : St) (k : Nat) : Option Sq := lookQ k s.q
def St.put (s : St) (u : Nat) (x : AV) : St := { s with t := (u, x) :: kill u s.t }
def St.newBox (s : St) (d : Nat) (e : TypeId) (cs : List LV) (x : AV) : St := { s with t := (d, x) :: kill d (killBox d s.t), b := (d, some (e, cs)) :: s.b }
def St.setBox (s : St) (i : Nat) (e : TypeId) (cs : List LV) : St := { s with b := (i, some (e, cs)) :: s.b }
/-- A sequence comes to be (what named one of that number is forgotten). -/
def St.newSeq (s : St) (k : Nat) (q : Sq) : St := { s with t := killSq k s.t, b := killBs k s.b, q := (k, some q) :: s.q }
/-- A sequence is forgotten. -/
def St.dropSeq (s : St) (k : Nat) : St := { s with t := killSq k s.t, b := killBs k s.b, q := (k, none) :: s.q }
/-- What is known of a sequence changes, not where it lies. -/
def St.setSeq (s : St) (k : Nat) (q : Sq) : St := { s with q := (k, some q) :: s.q }

/-- Where boxes and sequences lie, and what sequences hold to the cell. -/
structure Nm where
  b : Nat → Nat
  q : Nat → Value
  z : Nat → List Value

def placeOf : Value → Addr
  | .slice (some a) _ _ => a
  | _ => ⟨0, 0, none⟩
def concL (N : Nm) : LV → Value
  | .v x => x
  | .sq k => N.q k
  | .dead => undef
def concT (N : Nm) : TV → Value
  | .one x => concL N x
  | .agg xs => .agg (xs.map (concL N)).toArray
def conc (N : Nm) : AV → Value
  | .v x => x
  | .own i off => .pointer (some ⟨N.b i, off, none⟩)
  | .ownx i base _ k => .pointer (some ⟨N.b i, base + k, none⟩)
  | .osl i len cap => .slice (some ⟨N.b i, 0, none⟩) len cap
  | .sq k => N.q k
  | .el k off => .pointer (some ((placeOf (N.q k)).add off))
  | .agg xs => .agg (xs.map (concL N)).toArray
  | .tup xs => .tuple (xs.map (concT N)).toArray
  | _ => undef
def LV.live : LV → Bool
  | .dead => false
  | _ => true
def liveL : List LV → Bool
  | [] => true
  | x :: r => bif x.live then liveL r else false
def TV.live : TV → Bool
  | .one x => x.live
  | .agg xs => liveL xs
def liveT : List TV → Bool
  | [] => true
  | x :: r => bif x.live then liveT r else false
def AV.simple : AV → Bool
  | .opt _ _ _ => false
  | .dead => false
  | .agg xs => liveL xs
  | .tup xs => liveT xs
  | _ => true

def Holds (N : Nm) (tm : Nat → Value) : AV → Value → Prop
  | .opt u b x, y => (tm u = .bool b → Holds N tm x y) ∧ (tm u ≠ .bool b → y = undef)
  | .dead, _ => True
  | x, y => x.simple = true ∧ y = conc N x

theorem holds_simple {N : Nm} {tm : Nat → Value} {x : AV} {y : Value} (hs : x.simple = true) : Holds N tm x y ↔ y = conc N x := by
  cases x <;> first | exact ⟨fun h => h.2, fun h => ⟨hs, h⟩⟩ | cases hs
theorem holds_congr {N : Nm} {tm tm' : Nat → Value} {u : Nat} (ht : ∀ k, k ≠ u → tm' k = tm k) : ∀ {x : AV} {y : Value}, x.dep u = false → Holds N tm x y → Holds N tm' x y
  | .v _, _, _, h => h
  | .own _ _, _, _, h => h
  | .ownx _ _ _ _, _, _, h => h
  | .osl _ _ _, _, _, h => h
  | .sq _, _, _, h => h
  | .el _ _, _, _, h => h
  | .agg _, _, _, h => h
  | .tup _, _, _, h => h
  | .dead, _, _, _ => trivial
  | .opt k b x, y, hd, h => by
    unfold AV.dep at hd
    cases hk : Nat.beq k u with
    | true => rw [hk] at hd; cases hd
    | false =>
      rw [hk] at hd
      have hne : k ≠ u := fun e => by subst e; simp at hk
      unfold Holds
      rw [ht k hne]
      exact ⟨fun hb => holds_congr ht hd (h.1 hb), h.2⟩
theorem holds_box {N N' : Nm} {tm : Nat → Value} {i : Nat} (hq : N'.q = N.q) (hσ : ∀ k, k ≠ i → N'.b k = N.b k) : ∀ {x : AV} {y : Value}, x.refs i = false → Holds N tm x y → Holds N' tm x y
  | .v _, _, _, h => h
  | .own k _, _, hr, h => by
    have hne : k ≠ i := fun e => by subst e; simp [AV.refs] at hr
    refine ⟨rfl, ?_⟩
    show _ = Value.pointer (some ⟨N'.b k, _, none⟩)
    rw [hσ k hne]
    exact h.2
  | .ownx k _ _ _, _, hr, h => by
    have hne : k ≠ i := fun e => by subst e; simp [AV.refs] at hr
    refine ⟨rfl, ?_⟩
    show _ = Value.pointer (some ⟨N'.b k, _, none⟩)
    rw [hσ k hne]
    exact h.2
  | .osl k _ _, _, hr, h => by
    have hne : k ≠ i := fun e => by subst e; simp [AV.refs] at hr
    refine ⟨rfl, ?_⟩
    show _ = Value.slice (some ⟨N'.b k, 0, none⟩) _ _
    rw [hσ k hne]
    exact h.2
  | .sq k, _, _, h => ⟨rfl, by show _ = N'.q k; rw [hq]; exact h.2⟩
  | .el k off, _, _, h => ⟨rfl, by show _ = Value.pointer (some ((placeOf (N'.q k)).add off)); rw [hq]; exact h.2⟩
  | .agg xs, _, _, h => ⟨h.1, by
      have : concL N' = concL N := funext fun x => by cases x <;> first | rfl | (show N'.q _ = N.q _; rw [hq])
      show _ = Value.agg (xs.map (concL N')).toArray
      rw [this]
      exact h.2⟩
  | .tup xs, _, _, h => ⟨h.1, by
      have e1 : concL N' = concL N := funext fun x => by cases x <;> first | rfl | (show N'.q _ = N.q _; rw [hq])
      have e2 : concT N' = concT N := funext fun x => by cases x <;> simp only [concT, e1]
      show _ = Value.tuple (xs.map (concT N')).toArray
      rw [e2]
      exact h.2⟩
  | .dead, _, _, _ => trivial
  | .opt k b x, y, hr, h => ⟨fun hb => holds_box hq hσ hr (h.1 hb), h.2⟩

section
variable {N N' : Nm} {i : Nat} (hb : N'.b = N.b) (hσ : ∀ k, k ≠ i → N'.q k = N.q k)
include hσ
theorem concL_sq {x : LV} (hr : x.refq i = false) : concL N' x = concL N x := by
  cases x <;> first | rfl | skip
  rename_i k
  exact hσ k fun e => by subst e; simp [LV.refq] at hr
theorem mapL_sq : ∀ {xs : List LV}, refqL i xs = false → xs.map (concL N') = xs.map (concL N)
  | [], _ => rfl
  | x :: r, h => by
    unfold refqL at h
    cases hx : x.refq i with
    | true => rw [hx] at h; cases h
    | false =>
      rw [hx] at h
      rw [List.map_cons, List.map_cons, concL_sq hσ hx, mapL_sq h]
theorem concT_sq {x : TV} (hr : x.refq i = false) : concT N' x = concT N x := by
  cases x with
  | one x => exact concL_sq hσ hr
  | agg xs => show Value.agg _ = Value.agg _; rw [mapL_sq hσ hr]
theorem mapT_sq : ∀ {xs : List TV}, refqT i xs = false → xs.map (concT N') = xs.map (concT N)
  | [], _ => rfl
  | x :: r, h => by
    unfold refqT at h
    cases hx : x.refq i with
    | true => rw [hx] at h; cases h
    | false =>
      rw [hx] at h
      rw [List.map_cons, List.map_cons, concT_sq hσ hx, mapT_sq h]
include hb
theorem holds_sq {tm : Nat → Value} : ∀ {x : AV} {y : Value}, x.refq i = false → Holds N tm x y → Holds N' tm x y
  | .v _, _, _, h => h
  | .own k _, _, _, h => ⟨rfl, by show _ = Value.pointer (some ⟨N'.b k, _, none⟩); rw [hb]; exact h.2⟩
  | .ownx k _ _ _, _, _, h => ⟨rfl, by show _ = Value.pointer (some ⟨N'.b k, _, none⟩); rw [hb]; exact h.2⟩
  | .osl k _ _, _, _, h => ⟨rfl, by show _ = Value.slice (some ⟨N'.b k, 0, none⟩) _ _; rw [hb]; exact h.2⟩
  | .sq k, _, hr, h => by
    have hne : k ≠ i := fun e => by subst e; simp [AV.refq] at hr
    refine ⟨rfl, ?_⟩
    show _ = N'.q k
    rw [hσ k hne]
    exact h.2
  | .el k off, _, hr, h => by
    have hne : k ≠ i := fun e => by subst e; simp [AV.refq] at hr
    refine ⟨rfl, ?_⟩
    show _ = Value.pointer (some ((placeOf (N'.q k)).add off))
    rw [hσ k hne]
    exact h.2
  | .agg xs, _, hr, h => ⟨h.1, by
      show _ = Value.agg (xs.map (concL N')).toArray
      rw [mapL_sq hσ hr]
      exact h.2⟩
  | .tup xs, _, hr, h => ⟨h.1, by
      show _ = Value.tuple (xs.map (concT N')).toArray
      rw [mapT_sq hσ hr]
      exact h.2⟩
  | .dead, _, _, _ => trivial
  | .opt k b x, y, hr, h => ⟨fun hc => holds_sq hr (h.1 hc), h.2⟩
end

def tmOf (a : Act) : Nat → Value := fun u => a.tmps.getD u undef

/-! ### sequences in memory -/
def blkOf : Value → Option Nat
  | .slice (some a) _ _ => some a.block
  | _ => none
/-- A slice value with its cells. -/
structure FlatR (R : World) (v : Value) (size n : Nat) (zs : List Value) : Prop where
  len : zs.length = n * size
  val : ∃ A c, v = .slice A n c ∧ n ≤ c
  cells : 0 < n → ∃ ad, blkOf v = some ad.block ∧ placeOf v = ad ∧ (∃ A c, v = .slice (some ad) A c) ∧ ad.block < R.heap.size ∧ ∀ j u, zs[j]? = some u → R.cell? (ad.add j) = some u
def isKid (q : Sq) (j : Nat) : Bool := match q.kid with
  | some K => Nat.beq (j % q.size) K.at_
  | none => false
structure SeqR (base : Nat) (R : World) (v : Value) (zs : List Value) (q : Sq) : Prop where
  flat : FlatR R v q.size q.n zs
  own : q.own = true → R.ownsRow base q.e q.size v q.n zs
  alike : zs.length = q.xs.length ∧ ∀ j, isKid q j = false → zs[j]? = q.xs[j]?
  kids : ∀ K, q.kid = some K → ∀ i, i < q.n → ∃ v', zs[i * q.size + K.at_]? = some v' ∧ FlatR R v' K.size (K.n i) (K.xs i)
/-- The blocks of a sequence. -/
def Touch (v : Value) (zs : List Value) (q : Sq) (g : Nat) : Prop :=
  ((0 < q.n ∨ q.own = true) ∧ blkOf v = some g) ∨ ∃ K i v', q.kid = some K ∧ i < q.n ∧ zs[i * q.size + K.at_]? = some v' ∧ 0 < K.n i ∧ blkOf v' = some g

theorem FlatR.keep {R R' : World} {v : Value} {size n : Nat} {zs : List Value} (h : FlatR R v size n zs) (hz : R.heap.size ≤ R'.heap.size) (hk : ∀ g, 0 < n → blkOf v = some g → R'.heap[g]? = R.heap[g]?) : FlatR R' v size n zs :=
  ⟨h.len, h.val, fun hn => by
    obtain ⟨ad, h1, h2, h2', h3, h4⟩ := h.cells hn
    refine ⟨ad, h1, h2, h2', by omega, fun j u hu => ?_⟩
    have hb : (ad.add j).block = ad.block := by unfold Addr.add; split <;> rfl
    have hc := World.cell?_of_block (w := R) (w' := R') (a := ad.add j) (by rw [hb]; exact hk _ hn h1)
    rw [hc]
    exact h4 j u hu⟩
theorem ownsRow_keep {R R' : World} {base : Nat} {e : TypeId} {size n : Nat} {v : Value} {zs : List Value} (h : R.ownsRow base e size v n zs) (hk : ∀ g, blkOf v = some g → R'.heap[g]? = R.heap[g]?) : R'.ownsRow base e size v n zs := by
  refine ⟨h.1, ?_⟩
  rcases h.2 with h0 | ⟨g, cap, cur, h1, h2, h3, h4⟩
  · exact .inl h0
  · exact .inr ⟨g, cap, cur, h1, h2, (hk g (by rw [h1]; rfl)).trans h3, h4⟩
theorem SeqR.keep {base : Nat} {R R' : World} {v : Value} {zs : List Value} {q : Sq} (h : SeqR base R v zs q) (hz : R.heap.size ≤ R'.heap.size) (hk : ∀ g, Touch v zs q g → R'.heap[g]? = R.heap[g]?) : SeqR base R' v zs q :=
  ⟨h.flat.keep hz fun g hn hg => hk g (.inl ⟨.inl hn, hg⟩), fun ho => ownsRow_keep (h.own ho) fun g hg => hk g (.inl ⟨.inr ho, hg⟩), h.alike, fun K hK i hi => by
    obtain ⟨v', h1, h2⟩ := h.kids K hK i hi
    exact ⟨v', h1, h2.keep hz fun g hn hg => hk g (.inr ⟨K, i, v', hK, hi, h1, hn, hg⟩)⟩⟩
theorem SeqR.lt {base : Nat} {R : World} {v : Value} {zs : List Value} {q : Sq} (h : SeqR base R v zs q) {g : Nat} (hg : Touch v zs q g) : g < R.heap.size := by
  rcases hg with ⟨h1, h2⟩ | ⟨K, i, v', hK, hi, h1, hn, h2⟩
  · by_cases hn : 0 < q.n
    · obtain ⟨ad, e1, _, _, e3, _⟩ := h.flat.cells hn
      rw [h2] at e1
      cases e1
      exact e3
    · have ho := h.own (h1.resolve_left hn)
      rcases ho.2 with ⟨e1, _⟩ | ⟨g', cap, cur, e1, _, e3, _⟩
      · rw [e1] at h2; cases h2
      · rw [e1] at h2
        cases h2
        exact blk_lt e3
  · obtain ⟨v'', e1, e2⟩ := h.kids K hK i hi
    rw [h1] at e1
    cases e1
    obtain ⟨ad, g1, _, _, g3, _⟩ := e2.cells hn
    rw [h2] at g1
    cases g1
    exact g3

def LVIs (N : Nm) : LV → Value → Prop
  | .dead, _ => True
  | x, y => y = concL N x
def CellsAre (N : Nm) : List LV → List Value → Prop
  | [], [] => True
  | c :: cs, v :: vs => LVIs N c v ∧ CellsAre N cs vs
  | _, _ => False

structure Rel (w0 : World) (N : Nm) (s : St) (a : Act) (R : World) : Prop where
  defers : a.defers = []
  size : a.tmps.size = s.n
  slots : ∀ u x, s.get u = some x → Holds N (tmOf a) x (tmOf a u)
  boxes : ∀ i e cs, s.box i = some (e, cs) → w0.heap.size ≤ N.b i ∧ ∃ vs, CellsAre N cs vs ∧ R.heap[N.b i]? = some (.cells vs.toArray e (0, 0))
  inj : ∀ i j x y, s.box i = some x → s.box j = some y → N.b i = N.b j → i = j
  seqs : ∀ k q, s.seq k = some q → SeqR w0.heap.size R (N.q k) (N.z k) q
  sepB : ∀ k q g, s.seq k = some q → Touch (N.q k) (N.z k) q g → ∀ i x, s.box i = some x → N.b i ≠ g
  sepQ : ∀ k q g, s.seq k = some q → q.own = true → blkOf (N.q k) = some g → (∀ k' q', k' ≠ k → s.seq k' = some q' → ¬ Touch (N.q k') (N.z k') q' g) ∧ (∀ K i v', q.kid = some K → i < q.n → (N.z k)[i * q.size + K.at_]? = some v' → 0 < K.n i → blkOf v' ≠ some g)
  bel : Below w0.heap.size w0 R
theorem look_kill {u k : Nat} {x : AV} : ∀ {t : Slots}, look k (kill u t) = some x → x = .dead ∨ (look k t = some x ∧ x.dep u = false)
  | [], h => by cases h
  | (j, y) :: r, h => by
    unfold kill at h
    cases hd : y.dep u with
    | true =>
      rw [hd] at h
      simp only [cond_true] at h
      unfold look at h ⊢
      cases hj : Nat.beq j k with
      | true => rw [hj] at h; simp only [cond_true] at h; exact .inl (Option.some.inj h).symm
      | false => rw [hj] at h; simp only [cond_false] at h ⊢; exact look_kill h
    | false =>
      rw [hd] at h
      simp only [cond_false] at h
      unfold look at h ⊢
      cases hj : Nat.beq j k with
      | true =>
        rw [hj] at h
        simp only [cond_true] at h ⊢
        obtain rfl := Option.some.inj h
        exact .inr ⟨rfl, hd⟩
      | false => rw [hj] at h; simp only [cond_false] at h ⊢; exact look_kill h
theorem look_killBox {u k : Nat} {x : AV} : ∀ {t : Slots}, look k (killBox u t) = some x → x = .dead ∨ (look k t = some x ∧ x.refs u = false)
  | [], h => by cases h
  | (j, y) :: r, h => by
    unfold killBox at h
    cases hd : y.refs u with
    | true =>
      rw [hd] at h
      simp only [cond_true] at h
      unfold look at h ⊢
      cases hj : Nat.beq j k with
      | true => rw [hj] at h; simp only [cond_true] at h; exact .inl (Option.some.inj h).symm
      | false => rw [hj] at h; simp only [cond_false] at h ⊢; exact look_killBox h
    | false =>
      rw [hd] at h
      simp only [cond_false] at h
      unfold look at h ⊢
      cases hj : Nat.beq j k with
      | true =>
        rw [hj] at h
        simp only [cond_true] at h ⊢
        obtain rfl := Option.some.inj h
        exact .inr ⟨rfl, hd⟩
      | false => rw [hj] at h; simp only [cond_false] at h ⊢; exact look_killBox h

theorem look_killSq {u k : Nat} {x : AV} : ∀ {t : Slots}, look k (killSq u t) = some x → x = .dead ∨ (look k t = some x ∧ x.refq u = false)
  | [], h => by cases h
  | (j, y) :: r, h => by
    unfold killSq at h
    cases hd : y.refq u with
    | true =>
      rw [hd] at h
      simp only [cond_true] at h
      unfold look at h ⊢
      cases hj : Nat.beq j k with
      | true => rw [hj] at h; simp only [cond_true] at h; exact .inl (Option.some.inj h).symm
      | false => rw [hj] at h; simp only [cond_false] at h ⊢; exact look_killSq h
    | false =>
      rw [hd] at h
      simp only [cond_false] at h
      unfold look at h ⊢
      cases hj : Nat.beq j k with
      | true =>
        rw [hj] at h
        simp only [cond_true] at h ⊢
        obtain rfl := Option.some.inj h
        exact .inr ⟨rfl, hd⟩
      | false => rw [hj] at h; simp only [cond_false] at h ⊢; exact look_killSq h

theorem tm_put_ne {a : Act} {d k : Nat} (v : Value) (h : k ≠ d) : tmOf (a.put (some d) v) k = tmOf a k := by
  unfold tmOf
  rw [put_getD]
  rw [if_neg (fun e => h e.1.symm)]
theorem tm_put_same {a : Act} {d : Nat} (v : Value) (h : d < a.tmps.size) : tmOf (a.put (some d) v) d = v := by
  unfold tmOf
  rw [put_getD]
  rw [if_pos ⟨rfl, h⟩]


theorem lookB_killBs {k i : Nat} {e : TypeId} {cs : List LV} : ∀ {b : Boxes}, lookB i (killBs k b) = some (e, cs) → ∃ cs0, lookB i b = some (e, cs0) ∧ cs = killL k cs0
  | [], h => by cases h
  | (j, none) :: r, h => by
    have h' : (bif Nat.beq j i then none else lookB i (killBs k r)) = some (e, cs) := h
    show ∃ cs0, (bif Nat.beq j i then none else lookB i r) = some (e, cs0) ∧ _
    cases hj : Nat.beq j i with
    | true => rw [hj] at h'; cases h'
    | false => rw [hj] at h'; exact lookB_killBs h'
  | (j, some (e', cs')) :: r, h => by
    have h' : (bif Nat.beq j i then some (e', killL k cs') else lookB i (killBs k r)) = some (e, cs) := h
    show ∃ cs0, (bif Nat.beq j i then some (e', cs') else lookB i r) = some (e, cs0) ∧ _
    cases hj : Nat.beq j i with
    | true => rw [hj] at h'; cases h'; exact ⟨cs', rfl, rfl⟩
    | false => rw [hj] at h'; exact lookB_killBs h'
theorem lookB_killBs' {k i : Nat} {x : TypeId × List LV} {b : Boxes} (h : lookB i (killBs k b) = some x) : ∃ y, lookB i b = some y := by
  obtain ⟨e, cs⟩ := x
  obtain ⟨cs0, h0, _⟩ := lookB_killBs h
  exact ⟨_, h0⟩
theorem lvis_sq {N N' : Nm} {i : Nat} (hσ : ∀ k, k ≠ i → N'.q k = N.q k) {x : LV} {v : Value} (h : LVIs N x v) : LVIs N' (bif x.refq i then .dead else x) v := by
  cases hr : x.refq i with
  | true => trivial
  | false =>
    have := concL_sq hσ hr
    cases x with
    | v y => exact h
    | sq k => show v = concL N' (.sq k); rw [this]; exact h
    | dead => trivial
theorem cells_sq {N N' : Nm} {i : Nat} (hσ : ∀ k, k ≠ i → N'.q k = N.q k) : ∀ {cs : List LV} {vs : List Value}, CellsAre N cs vs → CellsAre N' (killL i cs) vs
  | [], [], _ => trivial
  | _ :: _, _ :: _, ⟨h1, h2⟩ => ⟨lvis_sq hσ h1, cells_sq hσ h2⟩
  | [], _ :: _, h => h.elim
  | _ :: _, [], h => h.elim
theorem cells_q {N N' : Nm} (hq : N'.q = N.q) : ∀ {cs : List LV} {vs : List Value}, CellsAre N cs vs → CellsAre N' cs vs
  | [], [], _ => trivial
  | c :: _, v :: _, ⟨h1, h2⟩ => ⟨(by
      cases c with
      | v y => exact h1
      | sq k => show v = N'.q k; rw [hq]; exact h1
      | dead => trivial), cells_q hq h2⟩
  | [], _ :: _, h => h.elim
  | _ :: _, [], h => h.elim

section
variable {w0 : World} {N : Nm} {s : St} {a : Act} {R : World}

theorem Rel.put (h : Rel w0 N s a R) {d : Nat} (hd : d < s.n) {x : AV} (y : Value) (hx : Holds N (tmOf (a.put (some d) y)) x y) : Rel w0 N (s.put d x) (a.put (some d) y) R where
  defers := by rw [put_defers']; exact h.defers
  size := by rw [put_size]; exact h.size
  slots := fun u z hu => by
    unfold St.get St.put look at hu
    cases hk : Nat.beq d u with
    | true =>
      rw [hk] at hu
      obtain rfl : x = z := Option.some.inj hu
      obtain rfl : d = u := Nat.eq_of_beq_eq_true hk
      rw [tm_put_same y (by rw [h.size]; exact hd)]
      exact hx
    | false =>
      rw [hk] at hu
      have hne : u ≠ d := fun e => by subst e; simp at hk
      rw [tm_put_ne y hne]
      rcases look_kill hu with rfl | ⟨h1, h2⟩
      · trivial
      · exact holds_congr (fun k hk' => tm_put_ne y hk') h2 (h.slots u z h1)
  boxes := h.boxes
  inj := h.inj
  seqs := h.seqs
  sepB := h.sepB
  sepQ := h.sepQ
  bel := h.bel

theorem Rel.grow (h : Rel w0 N s a R) {R' : World} (hb : Below R.heap.size R R') : Rel w0 N s a R' where
  defers := h.defers
  size := h.size
  slots := h.slots
  boxes := fun i e cs hi => by
    obtain ⟨h1, vs, h2, h3⟩ := h.boxes i e cs hi
    exact ⟨h1, vs, h2, blk_next h3 hb⟩
  inj := h.inj
  seqs := fun k q hk => (h.seqs k q hk).keep hb.size fun g hg => hb.block g ((h.seqs k q hk).lt hg)
  sepB := h.sepB
  sepQ := h.sepQ
  bel := h.bel.trans (hb.mono h.bel.size)

def setF {α : Type} (σ : Nat → α) (d : Nat) (m : α) : Nat → α := fun k => bif Nat.beq k d then m else σ k
theorem setF_same {α : Type} (σ : Nat → α) (d : Nat) (m : α) : setF σ d m d = m := by simp [setF]
theorem setF_ne {α : Type} (σ : Nat → α) {d k : Nat} (m : α) (h : k ≠ d) : setF σ d m k = σ k := by
  unfold setF
  cases hk : Nat.beq k d with
  | true => exact absurd (Nat.eq_of_beq_eq_true hk) h
  | false => rfl
def Nm.setB (N : Nm) (d m : Nat) : Nm := ⟨setF N.b d m, N.q, N.z⟩
def Nm.setQ (N : Nm) (k : Nat) (v : Value) (zs : List Value) : Nm := ⟨N.b, setF N.q k v, setF N.z k zs⟩

theorem box_new (s : St) (d : Nat) (e : TypeId) (cs : List LV) (x : AV) (i : Nat) : (s.newBox d e cs x).box i = if i = d then some (e, cs) else s.box i := by
  show (bif Nat.beq d i then some (e, cs) else lookB i s.b) = _
  by_cases h : i = d
  · subst h; simp
  · rw [if_neg h]
    have : Nat.beq d i = false := by
      cases hk : Nat.beq d i with
      | true => exact absurd (Nat.eq_of_beq_eq_true hk).symm h
      | false => rfl
    rw [this]
    rfl
theorem box_set (s : St) (d : Nat) (e : TypeId) (cs : List LV) (i : Nat) : (s.setBox d e cs).box i = if i = d then some (e, cs) else s.box i := by
  show (bif Nat.beq d i then some (e, cs) else lookB i s.b) = _
  by_cases h : i = d
  · subst h; simp
  · rw [if_neg h]
    have : Nat.beq d i = false := by
      cases hk : Nat.beq d i with
      | true => exact absurd (Nat.eq_of_beq_eq_true hk).symm h
      | false => rfl
    rw [this]
    rfl
theorem seq_cons (k : Nat) (q : Option Sq) (l : Seqs) (j : Nat) : lookQ j ((k, q) :: l) = if j = k then q else lookQ j l := by
  show (bif Nat.beq k j then q else lookQ j l) = _
  by_cases h : j = k
  · subst h; simp
  · rw [if_neg h]
    have : Nat.beq k j = false := by
      cases hk : Nat.beq k j with
      | true => exact absurd (Nat.eq_of_beq_eq_true hk).symm h
      | false => rfl
    rw [this]
    rfl

/-- A new block m becomes box d. -/
theorem Rel.newBox (h : Rel w0 N s a R) {d m : Nat} (hd : d < s.n) {e : TypeId} {cs : List LV} {vs : List Value} (hcs : CellsAre N cs vs) {x : AV} {R' : World} (hm : R.heap.size ≤ m) (hb : Below R.heap.size R R') (ho : R'.heap[m]? = some (.cells vs.toArray e (0, 0)))
    (hx : x.simple = true) : Rel w0 (N.setB d m) (s.newBox d e cs x) (a.put (some d) (conc (N.setB d m) x)) R' := by
  have hg := h.grow hb
  refine ⟨by rw [put_defers']; exact h.defers, by rw [put_size]; exact h.size, fun u z hu => ?_, fun i e' cs' hi => ?_, fun i j y z hi hj hij => ?_, hg.seqs, fun k q g hk ht i x hi => ?_, hg.sepQ, hg.bel⟩
  · unfold St.get St.newBox look at hu
    cases hk : Nat.beq d u with
    | true =>
      rw [hk] at hu
      obtain rfl : x = z := Option.some.inj hu
      obtain rfl : d = u := Nat.eq_of_beq_eq_true hk
      rw [tm_put_same _ (by rw [h.size]; exact hd)]
      exact (holds_simple hx).2 rfl
    | false =>
      rw [hk] at hu
      have hne : u ≠ d := fun e => by subst e; simp at hk
      rw [tm_put_ne _ hne]
      rcases look_kill hu with rfl | ⟨h1, h2⟩
      · trivial
      · rcases look_killBox h1 with rfl | ⟨h3, h4⟩
        · trivial
        · exact holds_congr (fun k hk' => tm_put_ne _ hk') h2 (holds_box (N := N) (N' := N.setB d m) rfl (fun k hk' => setF_ne N.b m hk') h4 (h.slots u z h3))
  · rw [box_new] at hi
    by_cases hid : i = d
    · subst hid
      rw [if_pos rfl] at hi
      obtain ⟨rfl, rfl⟩ : e = e' ∧ cs = cs' := by cases hi; exact ⟨rfl, rfl⟩
      have hs : (N.setB i m).b i = m := setF_same N.b i m
      rw [hs]
      exact ⟨Nat.le_trans h.bel.size hm, vs, cells_q (N := N) (N' := N.setB i m) rfl hcs, ho⟩
    · rw [if_neg hid] at hi
      have hs : (N.setB d m).b i = N.b i := setF_ne N.b m hid
      rw [hs]
      obtain ⟨g1, us, g2, g3⟩ := hg.boxes i e' cs' hi
      exact ⟨g1, us, cells_q (N := N) (N' := N.setB d m) rfl g2, g3⟩
  · rw [box_new] at hi hj
    have key : ∀ k z, s.box k = some z → N.b k < R.heap.size := fun k z hz => by
      obtain ⟨_, _, _, h3⟩ := h.boxes k z.1 z.2 hz
      exact blk_lt h3
    have hij' : setF N.b d m i = setF N.b d m j := hij
    by_cases hid : i = d
    · by_cases hjd : j = d
      · rw [hid, hjd]
      · rw [if_neg hjd] at hj
        have := key j z hj
        rw [hid, setF_same, setF_ne N.b m hjd] at hij'
        omega
    · rw [if_neg hid] at hi
      have := key i y hi
      by_cases hjd : j = d
      · rw [hjd, setF_same, setF_ne N.b m hid] at hij'
        omega
      · rw [if_neg hjd] at hj
        rw [setF_ne N.b m hid, setF_ne N.b m hjd] at hij'
        exact h.inj i j y z hi hj hij'
  · rw [box_new] at hi
    by_cases hid : i = d
    · have hs : (N.setB d m).b i = m := by rw [hid]; exact setF_same N.b d m
      rw [hs]
      have := (h.seqs k q hk).lt ht
      omega
    · rw [if_neg hid] at hi
      have hs : (N.setB d m).b i = N.b i := setF_ne N.b m hid
      rw [hs]
      exact h.sepB k q g hk ht i x hi

/-- Box i gets other cells. -/
theorem Rel.setBox (h : Rel w0 N s a R) {i : Nat} {e : TypeId} {cs cs' : List LV} {vs' : List Value} (hi : s.box i = some (e, cs)) (hc : CellsAre N cs' vs') : Rel w0 N (s.setBox i e cs') a (R.setRow (N.b i) vs'.toArray) := by
  obtain ⟨h1, vs, h2, h3⟩ := h.boxes i e cs hi
  have hne : ∀ k, k ≠ N.b i → (R.setRow (N.b i) vs'.toArray).heap[k]? = R.heap[k]? := fun k hk => by
    simp [World.setRow, Array.getElem?_modify, Ne.symm hk]
  have hsame : (R.setRow (N.b i) vs'.toArray).heap[N.b i]? = some (.cells vs'.toArray e (0, 0)) := setRow_heap R (N.b i) _ vs'.toArray e (0, 0) h3
  have hsz : (R.setRow (N.b i) vs'.toArray).heap.size = R.heap.size := by simp [World.setRow]
  have old : ∀ j x, (s.setBox i e cs').box j = some x → ∃ y, s.box j = some y := fun j x hj => by
    rw [box_set] at hj
    by_cases hji : j = i
    · exact ⟨_, hji ▸ hi⟩
    · rw [if_neg hji] at hj; exact ⟨_, hj⟩
  refine ⟨h.defers, h.size, h.slots, fun j e' cs'' hj => ?_, fun j k y z hj hk hjk => ?_, fun k q hk => (h.seqs k q hk).keep (by omega) fun g hg => hne g fun eg => h.sepB k q g hk hg i _ hi eg.symm,
    fun k q g hk hg j x hj => ?_, h.sepQ, ?_⟩
  · rw [box_set] at hj
    by_cases hji : j = i
    · subst hji
      rw [if_pos rfl] at hj
      obtain ⟨rfl, rfl⟩ : e = e' ∧ cs' = cs'' := by cases hj; exact ⟨rfl, rfl⟩
      exact ⟨h1, vs', hc, hsame⟩
    · rw [if_neg hji] at hj
      obtain ⟨g1, us, g2, g3⟩ := h.boxes j e' cs'' hj
      exact ⟨g1, us, g2, (hne _ fun e => hji (h.inj j i _ _ hj hi e)).trans g3⟩
  · obtain ⟨_, hj'⟩ := old j y hj
    obtain ⟨_, hk'⟩ := old k z hk
    exact h.inj j k _ _ hj' hk' hjk
  · obtain ⟨_, hj'⟩ := old j x hj
    exact h.sepB k q g hk hg j _ hj'
  · obtain ⟨b1, b2, b3, b4, b5⟩ := h.bel
    exact ⟨b1, b2, b3, by rw [hsz]; exact b4, fun k hk => (hne k (by omega)).trans (b5 k hk)⟩

/-- A sequence comes to be in a world in which all known things are as they were. -/
theorem Rel.newSeq (h : Rel w0 N s a R) {k : Nat} {q : Sq} {v : Value} {zs : List Value} (hq : SeqR w0.heap.size R v zs q) (hB : ∀ g, Touch v zs q g → ∀ i x, s.box i = some x → N.b i ≠ g)
    (hQ : q.own = true → ∀ g, blkOf v = some g → (∀ k' q', k' ≠ k → s.seq k' = some q' → ¬ Touch (N.q k') (N.z k') q' g) ∧ (∀ K i v', q.kid = some K → i < q.n → zs[i * q.size + K.at_]? = some v' → 0 < K.n i → blkOf v' ≠ some g))
    (hT : ∀ g, Touch v zs q g → ∀ k' q', k' ≠ k → s.seq k' = some q' → q'.own = true → blkOf (N.q k') ≠ some g) : Rel w0 (N.setQ k v zs) (s.newSeq k q) a R := by
  have hs : ∀ j, j ≠ k → (N.setQ k v zs).q j = N.q j := fun j hj => setF_ne N.q v hj
  have hz : ∀ j, j ≠ k → (N.setQ k v zs).z j = N.z j := fun j hj => setF_ne N.z zs hj
  have hsk : (N.setQ k v zs).q k = v := setF_same N.q k v
  have hzk : (N.setQ k v zs).z k = zs := setF_same N.z k zs
  have hseq : ∀ j, (s.newSeq k q).seq j = if j = k then some q else s.seq j := fun j => seq_cons k (some q) s.q j
  refine ⟨h.defers, h.size, fun u x hu => ?_, fun i e cs hi => ?_, fun i j x y hi hj hij => ?_, fun j q' hj => ?_, fun j q' g hj hg i x hi => ?_, fun j q' g hj ho hg => ?_, h.bel⟩
  · have hu' : look u (killSq k s.t) = some x := hu
    rcases look_killSq hu' with rfl | ⟨h1, h2⟩
    · trivial
    · exact holds_sq (N := N) (N' := N.setQ k v zs) rfl hs h2 (h.slots u x h1)
  · obtain ⟨cs0, h0, rfl⟩ := lookB_killBs (b := s.b) hi
    obtain ⟨g1, vs, g2, g3⟩ := h.boxes i e cs0 h0
    exact ⟨g1, vs, cells_sq hs g2, g3⟩
  · obtain ⟨_, h1⟩ := lookB_killBs' (b := s.b) hi
    obtain ⟨_, h2⟩ := lookB_killBs' (b := s.b) hj
    exact h.inj i j _ _ h1 h2 hij
  · rw [hseq] at hj
    by_cases hjk : j = k
    · subst hjk
      rw [if_pos rfl] at hj
      cases hj
      rw [hsk, hzk]
      exact hq
    · rw [if_neg hjk] at hj
      rw [hs j hjk, hz j hjk]
      exact h.seqs j q' hj
  · obtain ⟨y, hi'⟩ := lookB_killBs' (b := s.b) hi
    rw [hseq] at hj
    by_cases hjk : j = k
    · subst hjk
      rw [if_pos rfl] at hj
      cases hj
      rw [hsk, hzk] at hg
      exact hB g hg i y hi'
    · rw [if_neg hjk] at hj
      rw [hs j hjk, hz j hjk] at hg
      exact h.sepB j q' g hj hg i y hi'
  · rw [hseq] at hj
    by_cases hjk : j = k
    · subst hjk
      rw [if_pos rfl] at hj
      cases hj
      rw [hsk] at hg
      obtain ⟨h1, h2⟩ := hQ ho g hg
      refine ⟨fun k' q'' hne hk' => ?_, fun K i v' hK hi hv => ?_⟩
      · rw [hseq, if_neg hne] at hk'
        rw [hs k' hne, hz k' hne]
        exact h1 k' q'' hne hk'
      · rw [hzk] at hv
        exact h2 K i v' hK hi hv
    · rw [if_neg hjk] at hj
      rw [hs j hjk] at hg
      obtain ⟨h1, h2⟩ := h.sepQ j q' g hj ho hg
      refine ⟨fun k' q'' hne hk' => ?_, fun K i v' hK hi hv => ?_⟩
      · rw [hseq] at hk'
        by_cases hkk : k' = k
        · subst hkk
          rw [if_pos rfl] at hk'
          cases hk'
          rw [hsk, hzk]
          exact fun ht => hT g ht j q' hjk hj ho hg
        · rw [if_neg hkk] at hk'
          rw [hs k' hkk, hz k' hkk]
          exact h1 k' q'' hne hk'
      · rw [hz j hjk] at hv
        exact h2 K i v' hK hi hv
theorem Rel.dropSeq (h : Rel w0 N s a R) (k : Nat) : Rel w0 N (s.dropSeq k) a R := by
  have hseq : ∀ j q', (s.dropSeq k).seq j = some q' → j ≠ k ∧ s.seq j = some q' := fun j q' hj => by
    have : lookQ j ((k, none) :: s.q) = some q' := hj
    rw [seq_cons] at this
    by_cases hjk : j = k
    · rw [if_pos hjk] at this; cases this
    · rw [if_neg hjk] at this; exact ⟨hjk, this⟩
  refine ⟨h.defers, h.size, fun u x hu => ?_, fun i e cs hi => ?_, fun i j x y hi hj hij => ?_, fun j q' hj => h.seqs j q' (hseq j q' hj).2, fun j q' g hj hg i x hi => ?_, fun j q' g hj ho hg => ?_, h.bel⟩
  · have hu' : look u (killSq k s.t) = some x := hu
    rcases look_killSq hu' with rfl | ⟨h1, h2⟩
    · trivial
    · exact h.slots u x h1
  · obtain ⟨cs0, h0, rfl⟩ := lookB_killBs (b := s.b) hi
    obtain ⟨g1, vs, g2, g3⟩ := h.boxes i e cs0 h0
    exact ⟨g1, vs, cells_sq (N' := N) (fun _ _ => rfl) g2, g3⟩
  · obtain ⟨_, h1⟩ := lookB_killBs' (b := s.b) hi
    obtain ⟨_, h2⟩ := lookB_killBs' (b := s.b) hj
    exact h.inj i j _ _ h1 h2 hij
  · obtain ⟨y, hi'⟩ := lookB_killBs' (b := s.b) hi
    exact h.sepB j q' g (hseq j q' hj).2 hg i y hi'
  · obtain ⟨h1, h2⟩ := h.sepQ j q' g (hseq j q' hj).2 ho hg
    exact ⟨fun k' q'' hne hk' => h1 k' q'' hne (hseq k' q'' hk').2, h2⟩
end
end Go.Proofs.Yteebobbhhgmeiaa
