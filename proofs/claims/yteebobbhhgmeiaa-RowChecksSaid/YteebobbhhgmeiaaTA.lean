/- A symbolic run over typed data, part A: values, objects, what a state says of a frame and a world. -/
import Derived.Test.YteebobbhhgmeiaaT0
import Derived.Laws.OwnMore
namespace Go.Proofs.Yteebobbhhgmeiaa
open Go.RowKit

def nthL : List (List A) → Nat → List A
  | [], _ => []
  | x :: _, 0 => x
  | _ :: r, n + 1 => nthL r n
/-- The elements of a row. -/
inductive Els where
  | lst (cs : List (List A))
  | ty (c : TC) (l : List (U c))
def Els.n : Els → Nat
  | .lst cs => cs.length
  | .ty _ l => l.length
def Els.nth : Els → Nat → List A
  | .lst cs, k => nthL cs k
  | .ty c l, k => enc c (l.getD k (dflt c))
inductive Ob where
  | box (e : TypeId) (cs : List A)
  | arr (e : TypeId) (size : Nat) (els : Els)
  | map (k v : TC) (l : List (U k × U v))
  | sit (s : ByteArray) (pos : Nat)

abbrev Slots := List (Nat × A)
abbrev Objs := List (Nat × Option Ob)

def beqB : Bool → Bool → Bool
  | true, true => true
  | false, false => true
  | _, _ => false
theorem beqB_eq {a b : Bool} (h : beqB a b = true) : a = b := by cases a <;> cases b <;> first | rfl | cases h
theorem beq_self (k : Nat) : Nat.beq k k = true := by simp
theorem beq_ne {k j : Nat} (h : k ≠ j) : Nat.beq k j = false := by
  cases hb : Nat.beq k j with
  | true => exact absurd (Nat.eq_of_beq_eq_true hb) h
  | false => rfl

def look (u : Nat) : Slots → Option A
  | [] => none
  | (k, x) :: r => bif Nat.beq k u then some x else look u r
def lookO (i : Nat) : Objs → Option Ob
  | [] => none
  | (k, x) :: r => bif Nat.beq k i then x else lookO i r

structure St where
  n : Nat
  nx : Nat
  t : Slots
  o : Objs

/-- Where boxes and rows lie. -/
structure Nm where
  b : Nat → Nat
  q : Nat → Value

def placeOf : Value → Addr
  | .slice (some a) _ _ => a
  | _ => ⟨0, 0, none⟩
def blkOf : Value → Option Nat
  | .slice (some a) _ (_ + 1) => some a.block
  | _ => none

theorem add_add (ad : Addr) (i j : Nat) : (ad.add i).add j = ad.add (i + j) := by
  unfold Addr.add
  by_cases hi : i = 0 <;> by_cases hj : j = 0 <;> simp [hi, hj, Nat.add_assoc]
theorem add_block (ad : Addr) (i : Nat) : (ad.add i).block = ad.block := by unfold Addr.add; split <;> rfl
theorem add_mk (b o k : Nat) : (⟨b, o, none⟩ : Addr).add k = ⟨b, o + k, none⟩ := Addr.add_mid b o k
theorem add_zero (ad : Addr) : ad.add 0 = ad := by unfold Addr.add; simp

/-- The size of a row's element, by the object's number. -/
abbrev Szs := Nat → Nat

/-- A value is what is said of it: F are the blocks that stay as they are. -/
inductive Hv (F : Nat → Prop) (N : Nm) (nx : Nat) (R : World) : A → Value → Prop
  | v (x : Value) : Hv F N nx R (.v x) x
  | sl {c : TC} {l : List (U c)} {a : Option Addr} {cap : Nat} (ad : Addr) (h1 : l.length ≤ cap) (h2 : 0 < l.length → a = some ad ∧ F ad.block)
      (h3 : ∀ (i : Nat) (d : U c) (j : Nat) (x : A), l[i]? = some d → (enc c d)[j]? = some x → ∃ y, R.cell? (ad.add (i * size c + j)) = some y)
      (h4 : ∀ (i : Nat) (d : U c) (j : Nat) (x : A) (y : Value), l[i]? = some d → (enc c d)[j]? = some x → R.cell? (ad.add (i * size c + j)) = some y → Hv F N nx R x y) : Hv F N nx R (.sl c l) (.slice a l.length cap)
  | ref {l : List A} (ad : Addr) (h1 : F ad.block) (h2 : ∀ (j : Nat) (x : A), l[j]? = some x → ∃ y, R.cell? (ad.add j) = some y)
      (h3 : ∀ (j : Nat) (x : A) (y : Value), l[j]? = some x → R.cell? (ad.add j) = some y → Hv F N nx R x y) : Hv F N nx R (.ref l) (.pointer (some ad))
  | own {i off : Nat} (h : i < nx) : Hv F N nx R (.own i off) (.pointer (some ⟨N.b i, off, none⟩))
  | ownx {i base len k : Nat} (h : i < nx) : Hv F N nx R (.ownx i base len k) (.pointer (some ⟨N.b i, base + k, none⟩))
  | sq {i : Nat} (h : i < nx) : Hv F N nx R (.sq i) (N.q i)
  | vw {i size lo n : Nat} {full : Bool} {a : Option Addr} {cap : Nat} (h : i < nx) (h1 : n ≤ cap) (h2 : full = true → cap = n) (h3 : 0 < n → a = some ((placeOf (N.q i)).add (lo * size))) : Hv F N nx R (.vw i size lo n full) (.slice a n cap)
  | el {i k size off : Nat} (h : i < nx) : Hv F N nx R (.el i k size off) (.pointer (some ((placeOf (N.q i)).add (k * size + off))))
  | mp {i : Nat} (h : i < nx) : Hv F N nx R (.mp i) (.map (some (N.b i)))
  | nl (a : Option Addr) : Hv F N nx R .nl (.slice a 0 0)
  | it (q : Bool) (vs : List Value) (y : Value) (h : y = bif q then .tuple (Value.bool true :: vs).toArray else .tuple #[.bool false]) : Hv F N nx R (.it q vs) y
  | fn {f : FuncId} {first caps : List A} (vs us : List Value) (h1 : vs.length = first.length) (h2 : ∀ (j : Nat) (x : A) (v : Value), first[j]? = some x → vs[j]? = some v → Hv F N nx R x v)
      (h3 : us.length = caps.length) (h4 : ∀ (j : Nat) (x : A) (v : Value), caps[j]? = some x → us[j]? = some v → Hv F N nx R x v) : Hv F N nx R (.fn f first caps) (.func (.func f) vs.toArray us.toArray)
  | agg {xs : List A} (vs : List Value) (h1 : vs.length = xs.length) (h2 : ∀ (j : Nat) (x : A) (v : Value), xs[j]? = some x → vs[j]? = some v → Hv F N nx R x v) : Hv F N nx R (.agg xs) (.agg vs.toArray)
  | tup {xs : List A} (vs : List Value) (h1 : vs.length = xs.length) (h2 : ∀ (j : Nat) (x : A) (v : Value), xs[j]? = some x → vs[j]? = some v → Hv F N nx R x v) : Hv F N nx R (.tup xs) (.tuple vs.toArray)
  | dead (y : Value) : Hv F N nx R .dead y

/-- Values, one behind the other. -/
def HL (F : Nat → Prop) (N : Nm) (nx : Nat) (R : World) : List A → List Value → Prop
  | [], l => l = []
  | x :: r, l => ∃ v vs, l = v :: vs ∧ Hv F N nx R x v ∧ HL F N nx R r vs
/-- Cells, one behind the other. -/
def HC (F : Nat → Prop) (N : Nm) (nx : Nat) (R : World) (l : List A) (ad : Addr) : Prop := ∀ (j : Nat) (x : A), l[j]? = some x → ∃ y, R.cell? (ad.add j) = some y ∧ Hv F N nx R x y

section
variable {F : Nat → Prop} {N : Nm} {nx : Nat} {R : World}
theorem HL.nil : HL F N nx R [] [] := rfl
theorem HL.cons {x : A} {v : Value} {r : List A} {vs : List Value} (h : Hv F N nx R x v) (t : HL F N nx R r vs) : HL F N nx R (x :: r) (v :: vs) := ⟨v, vs, rfl, h, t⟩
theorem HL.inv {x : A} {r : List A} {l : List Value} (h : HL F N nx R (x :: r) l) : ∃ v vs, l = v :: vs ∧ Hv F N nx R x v ∧ HL F N nx R r vs := h
theorem HL.inv0 {l : List Value} (h : HL F N nx R [] l) : l = [] := h
theorem HL.length : ∀ {xs : List A} {vs : List Value}, HL F N nx R xs vs → vs.length = xs.length
  | [], _, h => by rw [h.inv0]; rfl
  | _ :: _, _, h => by
    obtain ⟨v, vs, rfl, _, h3⟩ := h.inv
    rw [List.length_cons, List.length_cons, HL.length h3]
theorem HL.append : ∀ {xs ys : List A} {vs us : List Value}, HL F N nx R xs vs → HL F N nx R ys us → HL F N nx R (xs ++ ys) (vs ++ us)
  | [], _, _, _, h, k => by rw [h.inv0]; exact k
  | _ :: _, _, _, _, h, k => by
    obtain ⟨v, vs, rfl, h2, h3⟩ := h.inv
    exact HL.cons h2 (HL.append h3 k)
theorem HL.drop : ∀ (n : Nat) {xs : List A} {vs : List Value}, HL F N nx R xs vs → HL F N nx R (xs.drop n) (vs.drop n)
  | 0, _, _, h => h
  | _ + 1, [], _, h => by rw [h.inv0]; exact HL.nil
  | n + 1, _ :: _, _, h => by
    obtain ⟨v, vs, rfl, _, h3⟩ := h.inv
    exact HL.drop n h3
theorem HL.take : ∀ (n : Nat) {xs : List A} {vs : List Value}, HL F N nx R xs vs → HL F N nx R (xs.take n) (vs.take n)
  | 0, _, _, _ => by rw [List.take_zero, List.take_zero]; exact HL.nil
  | _ + 1, [], _, h => by rw [h.inv0]; exact HL.nil
  | n + 1, _ :: _, _, h => by
    obtain ⟨v, vs, rfl, h2, h3⟩ := h.inv
    exact HL.cons h2 (HL.take n h3)
theorem HL.get : ∀ {xs : List A} {vs : List Value} {j : Nat} {x : A}, HL F N nx R xs vs → xs[j]? = some x → ∃ v, vs[j]? = some v ∧ Hv F N nx R x v
  | [], _, _, _, _, h => by cases h
  | _ :: _, _, 0, _, h, hx => by
    obtain ⟨v, vs, rfl, h2, _⟩ := h.inv
    cases hx
    exact ⟨v, rfl, h2⟩
  | _ :: _, _, j + 1, _, h, hx => by
    obtain ⟨v, vs, rfl, _, h3⟩ := h.inv
    exact HL.get (j := j) h3 hx
theorem HL.of : ∀ {xs : List A} {vs : List Value}, vs.length = xs.length → (∀ (j : Nat) (x : A) (v : Value), xs[j]? = some x → vs[j]? = some v → Hv F N nx R x v) → HL F N nx R xs vs
  | [], vs, h, _ => List.eq_nil_of_length_eq_zero h
  | x :: r, [], h, _ => by cases h
  | x :: r, v :: vs, h, k => HL.cons (k 0 x v rfl rfl) (HL.of (by simpa using h) fun j y u hy hu => k (j + 1) y u hy hu)
theorem HL.at {xs : List A} {vs : List Value} (h : HL F N nx R xs vs) : vs.length = xs.length ∧ ∀ (j : Nat) (x : A) (v : Value), xs[j]? = some x → vs[j]? = some v → Hv F N nx R x v := by
  refine ⟨h.length, fun j x v hx hv => ?_⟩
  obtain ⟨u, h1, h2⟩ := h.get hx
  rw [hv] at h1
  cases h1
  exact h2
theorem HL.split : ∀ {xs ys : List A} {vs : List Value}, HL F N nx R (xs ++ ys) vs → ∃ us ws, vs = us ++ ws ∧ HL F N nx R xs us ∧ HL F N nx R ys ws
  | [], _, vs, h => ⟨[], vs, rfl, HL.nil, h⟩
  | _ :: _, _, _, h => by
    obtain ⟨v, vs, rfl, h2, h3⟩ := h.inv
    obtain ⟨us, ws, rfl, h4, h5⟩ := HL.split h3
    exact ⟨v :: us, ws, rfl, HL.cons h2 h4, h5⟩
/-- Values as they are. -/
def toL : List Value → List A
  | [] => []
  | x :: r => .v x :: toL r
theorem Hv.v_inv {x y : Value} (h : Hv F N nx R (.v x) y) : y = x := by cases h; rfl
theorem HL.toL : ∀ xs : List Value, HL F N nx R (toL xs) xs
  | [] => HL.nil
  | _ :: r => HL.cons (Hv.v _) (HL.toL r)
def rawL : List A → Option (List Value)
  | [] => some []
  | .v x :: r => match rawL r with
    | some l => some (x :: l)
    | none => none
  | _ :: _ => none
theorem rawL_eq : ∀ {xs : List A} {us : List Value}, rawL xs = some us → xs = Go.Proofs.Yteebobbhhgmeiaa.toL us
  | [], us, e => by cases e; rfl
  | x :: r, us, e => by
    cases x <;> first | (cases e; done) | skip
    unfold rawL at e
    split at e <;> first | (cases e; done) | skip
    rename_i l hl
    cases e
    rw [rawL_eq hl]
    rfl
theorem toL_inv : ∀ {us vs : List Value}, HL F N nx R (Go.Proofs.Yteebobbhhgmeiaa.toL us) vs → vs = us
  | [], _, h => h.inv0
  | u :: r, _, h => by
    obtain ⟨v, vs, rfl, h2, h3⟩ := HL.inv (x := .v u) (r := Go.Proofs.Yteebobbhhgmeiaa.toL r) h
    rw [h2.v_inv, toL_inv h3]
theorem rawL_ok {xs : List A} {us vs : List Value} (e : rawL xs = some us) (h : HL F N nx R xs vs) : vs = us := by
  rw [rawL_eq e] at h
  exact toL_inv h
theorem Hv.agg_inv {xs : List A} {y : Value} (h : Hv F N nx R (.agg xs) y) : ∃ vs, y = .agg vs.toArray ∧ HL F N nx R xs vs := by
  cases h with | agg vs h1 h2 => exact ⟨vs, rfl, HL.of h1 h2⟩
theorem Hv.tup_inv {xs : List A} {y : Value} (h : Hv F N nx R (.tup xs) y) : ∃ vs, y = .tuple vs.toArray ∧ HL F N nx R xs vs := by
  cases h with | tup vs h1 h2 => exact ⟨vs, rfl, HL.of h1 h2⟩
theorem Hv.fn_inv {f : FuncId} {xs ys : List A} {y : Value} (h : Hv F N nx R (.fn f xs ys) y) : ∃ vs us, y = .func (.func f) vs.toArray us.toArray ∧ HL F N nx R xs vs ∧ HL F N nx R ys us := by
  cases h with | fn vs us h1 h2 h3 h4 => exact ⟨vs, us, rfl, HL.of h1 h2, HL.of h3 h4⟩
theorem Hv.of_agg {xs : List A} {vs : List Value} (h : HL F N nx R xs vs) : Hv F N nx R (.agg xs) (.agg vs.toArray) := .agg vs h.at.1 h.at.2
theorem Hv.of_tup {xs : List A} {vs : List Value} (h : HL F N nx R xs vs) : Hv F N nx R (.tup xs) (.tuple vs.toArray) := .tup vs h.at.1 h.at.2
theorem Hv.of_fn {f : FuncId} {xs ys : List A} {vs us : List Value} (h : HL F N nx R xs vs) (k : HL F N nx R ys us) : Hv F N nx R (.fn f xs ys) (.func (.func f) vs.toArray us.toArray) := .fn vs us h.at.1 h.at.2 k.at.1 k.at.2
theorem Hv.ref_inv {l : List A} {y : Value} (h : Hv F N nx R (.ref l) y) : ∃ ad, y = .pointer (some ad) ∧ F ad.block ∧ HC F N nx R l ad := by
  cases h with | ref ad h1 h2 h3 => exact ⟨ad, rfl, h1, fun j x hx => by obtain ⟨y, hy⟩ := h2 j x hx; exact ⟨y, hy, h3 j x y hx hy⟩⟩
theorem Hv.of_ref {l : List A} {ad : Addr} (h : F ad.block) (k : HC F N nx R l ad) : Hv F N nx R (.ref l) (.pointer (some ad)) :=
  .ref ad h (fun j x hx => by obtain ⟨y, hy, _⟩ := k j x hx; exact ⟨y, hy⟩) fun j x y hx hy => by
    obtain ⟨z, hz, h2⟩ := k j x hx
    rw [hy] at hz
    cases hz
    exact h2
theorem Hv.sl_inv {c : TC} {l : List (U c)} {y : Value} (h : Hv F N nx R (.sl c l) y) : ∃ a cap, y = .slice a l.length cap ∧ l.length ≤ cap ∧ (0 < l.length → ∃ ad, a = some ad ∧ F ad.block ∧ ∀ (i : Nat) (d : U c), l[i]? = some d → HC F N nx R (enc c d) (ad.add (i * size c))) := by
  cases h with
  | @sl _ _ a cap ad h1 h2 h3 h4 =>
    refine ⟨a, cap, rfl, h1, fun hn => ⟨ad, (h2 hn).1, (h2 hn).2, fun i d hd j x hx => ?_⟩⟩
    obtain ⟨y, hy⟩ := h3 i d j x hd hx
    exact ⟨y, by rw [add_add]; exact hy, h4 i d j x y hd hx hy⟩
theorem Hv.of_sl {c : TC} {l : List (U c)} {a : Option Addr} {cap : Nat} (h1 : l.length ≤ cap) (h2 : 0 < l.length → ∃ ad, a = some ad ∧ F ad.block ∧ ∀ (i : Nat) (d : U c), l[i]? = some d → HC F N nx R (enc c d) (ad.add (i * size c))) : Hv F N nx R (.sl c l) (.slice a l.length cap) := by
  by_cases hn : 0 < l.length
  · obtain ⟨ad, e1, e2, e3⟩ := h2 hn
    refine .sl ad h1 (fun _ => ⟨e1, e2⟩) (fun i d j x hd hx => ?_) (fun i d j x y hd hx hy => ?_)
    · obtain ⟨y, hy, _⟩ := e3 i d hd j x hx
      rw [add_add] at hy
      exact ⟨y, hy⟩
    · obtain ⟨z, hz, h⟩ := e3 i d hd j x hx
      rw [add_add, hy] at hz
      cases hz
      exact h
  · obtain rfl : l = [] := List.eq_nil_of_length_eq_zero (by omega)
    exact .sl ⟨0, 0, none⟩ h1 (fun h => absurd h (Nat.lt_irrefl _)) (fun i d j x hd => by cases i <;> cases hd) (fun i d j x y hd => by cases i <;> cases hd)
theorem Hv.nl_inv {y : Value} (h : Hv F N nx R .nl y) : ∃ a, y = .slice a 0 0 := by
  cases h with | nl a => exact ⟨a, rfl⟩
theorem Hv.sl_nil {c : TC} {a : Option Addr} {y : Value} (h : y = .slice a 0 0) : Hv F N nx R (.sl c []) y := by
  subst h
  exact Hv.of_sl (l := ([] : List (U c))) (Nat.le_refl _) fun h => absurd h (Nat.lt_irrefl _)
end

/-- What is said of values stays. -/
structure Ext (F : Nat → Prop) (N : Nm) (nx : Nat) (R : World) (F' : Nat → Prop) (N' : Nm) (nx' : Nat) (R' : World) : Prop where
  le : nx ≤ nx'
  b : ∀ i, i < nx → N'.b i = N.b i
  q : ∀ i, i < nx → N'.q i = N.q i
  f : ∀ g, F g → F' g
  heap : ∀ g, F g → R'.heap[g]? = R.heap[g]?

section
variable {F F' F'' : Nat → Prop} {N N' N'' : Nm} {nx nx' nx'' : Nat} {R R' R'' : World}
theorem Ext.refl : Ext F N nx R F N nx R := ⟨Nat.le_refl _, fun _ _ => rfl, fun _ _ => rfl, fun _ h => h, fun _ _ => rfl⟩
theorem Ext.trans (h : Ext F N nx R F' N' nx' R') (k : Ext F' N' nx' R' F'' N'' nx'' R'') : Ext F N nx R F'' N'' nx'' R'' :=
  ⟨Nat.le_trans h.le k.le, fun i hi => (k.b i (Nat.lt_of_lt_of_le hi h.le)).trans (h.b i hi), fun i hi => (k.q i (Nat.lt_of_lt_of_le hi h.le)).trans (h.q i hi), fun g hg => k.f g (h.f g hg), fun g hg => (k.heap g (h.f g hg)).trans (h.heap g hg)⟩
theorem Ext.cell (st : Ext F N nx R F' N' nx' R') {ad : Addr} (h : F ad.block) : R'.cell? ad = R.cell? ad := World.cell?_of_block (w := R) (st.heap _ h)
theorem Hv.step (st : Ext F N nx R F' N' nx' R') {x : A} {y : Value} (h : Hv F N nx R x y) : Hv F' N' nx' R' x y := by
  induction h with
  | v x => exact .v x
  | @sl c l a cap ad h1 h2 h3 h4 ih =>
    have key : ∀ i d j, l[i]? = some d → R'.cell? (ad.add (i * size c + j)) = R.cell? (ad.add (i * size c + j)) := fun i d j hd => by
      refine st.cell ?_
      rw [add_block]
      exact (h2 (by have := (List.getElem?_eq_some_iff.1 hd).1; omega)).2
    refine .sl ad h1 (fun hn => ⟨(h2 hn).1, st.f _ (h2 hn).2⟩) (fun i d j x hd hx => ?_) (fun i d j x y hd hx hy => ?_)
    · rw [key i d j hd]; exact h3 i d j x hd hx
    · rw [key i d j hd] at hy; exact ih i d j x y hd hx hy
  | @ref l ad h1 h2 h3 ih =>
    have key : ∀ j, R'.cell? (ad.add j) = R.cell? (ad.add j) := fun j => st.cell (by rw [add_block]; exact h1)
    refine .ref ad (st.f _ h1) (fun j x hx => by rw [key]; exact h2 j x hx) (fun j x y hx hy => ?_)
    rw [key] at hy
    exact ih j x y hx hy
  | own h => rw [← st.b _ h]; exact .own (Nat.lt_of_lt_of_le h st.le)
  | ownx h => rw [← st.b _ h]; exact .ownx (Nat.lt_of_lt_of_le h st.le)
  | sq h => rw [← st.q _ h]; exact .sq (Nat.lt_of_lt_of_le h st.le)
  | vw h h1 h2 h3 => exact .vw (Nat.lt_of_lt_of_le h st.le) h1 h2 (fun hn => by rw [st.q _ h]; exact h3 hn)
  | el h => rw [← st.q _ h]; exact .el (Nat.lt_of_lt_of_le h st.le)
  | mp h => rw [← st.b _ h]; exact .mp (Nat.lt_of_lt_of_le h st.le)
  | nl a => exact .nl a
  | it q vs y h => exact .it q vs y h
  | fn vs us h1 _ h3 _ ih2 ih4 => exact .fn vs us h1 ih2 h3 ih4
  | agg vs h1 _ ih => exact .agg vs h1 ih
  | tup vs h1 _ ih => exact .tup vs h1 ih
  | dead y => exact .dead y
theorem HL.step (st : Ext F N nx R F' N' nx' R') : ∀ {xs : List A} {vs : List Value}, HL F N nx R xs vs → HL F' N' nx' R' xs vs
  | [], _, h => h
  | _ :: _, _, ⟨v, vs, h1, h2, h3⟩ => ⟨v, vs, h1, h2.step st, HL.step st h3⟩
theorem HC.step (st : Ext F N nx R F' N' nx' R') {xs : List A} {ad : Addr} (hF : F ad.block) (h : HC F N nx R xs ad) : HC F' N' nx' R' xs ad := fun j x hx => by
  obtain ⟨y, h1, h2⟩ := h j x hx
  exact ⟨y, by rw [st.cell (by rw [add_block]; exact hF)]; exact h1, h2.step st⟩
end

/-! ### renaming -/
mutual
def A.ren (ρ : Nat → Nat) : A → A
  | .own i off => .own (ρ i) off
  | .ownx i base len k => .ownx (ρ i) base len k
  | .sq i => .sq (ρ i)
  | .vw i size lo n full => .vw (ρ i) size lo n full
  | .el i k size off => .el (ρ i) k size off
  | .mp i => .mp (ρ i)
  | .fn f first caps => .fn f (renL ρ first) (renL ρ caps)
  | .agg xs => .agg (renL ρ xs)
  | .tup xs => .tup (renL ρ xs)
  | .ref l => .ref (renL ρ l)
  | .opt u b x => .opt u b (x.ren ρ)
  | .v x => .v x
  | .sl c l => .sl c l
  | .nl => .nl
  | .it q vs => .it q vs
  | .dead => .dead
def renL (ρ : Nat → Nat) : List A → List A
  | [] => []
  | x :: r => x.ren ρ :: renL ρ r
end
theorem renL_eq (ρ : Nat → Nat) : ∀ l : List A, renL ρ l = l.map (A.ren ρ)
  | [] => by simp [renL]
  | x :: r => by rw [renL, renL_eq ρ r]; rfl
theorem renL_get {ρ : Nat → Nat} {l : List A} {j : Nat} {x : A} (h : (renL ρ l)[j]? = some x) : ∃ y, l[j]? = some y ∧ x = y.ren ρ := by
  rw [renL_eq, List.getElem?_map] at h
  cases hl : l[j]? with
  | none => rw [hl] at h; cases h
  | some y => rw [hl] at h; cases h; exact ⟨y, rfl, rfl⟩
theorem renL_length (ρ : Nat → Nat) (l : List A) : (renL ρ l).length = l.length := by rw [renL_eq, List.length_map]
theorem enc_ren (ρ : Nat → Nat) (c : TC) (d : U c) : ∀ x ∈ enc c d, x.ren ρ = x := fun x hx => by
  have := enc_plain c d x hx
  cases x <;> first | rfl | exact this.elim
structure Ren (ρ : Nat → Nat) (N : Nm) (nx : Nat) (N' : Nm) (nx' : Nat) : Prop where
  lt : ∀ i, i < nx → ρ i < nx'
  b : ∀ i, i < nx → N'.b (ρ i) = N.b i
  q : ∀ i, i < nx → N'.q (ρ i) = N.q i
section
variable {F : Nat → Prop} {N N' : Nm} {nx nx' : Nat} {R : World} {ρ : Nat → Nat}
theorem Hv.ren (st : Ren ρ N nx N' nx') {x : A} {y : Value} (h : Hv F N nx R x y) : Hv F N' nx' R (x.ren ρ) y := by
  induction h with
  | v x => exact .v x
  | @sl c l a cap ad h1 h2 h3 h4 ih =>
    refine .sl ad h1 h2 h3 (fun i d j x y hd hx hy => ?_)
    have := ih i d j x y hd hx hy
    rwa [enc_ren ρ c d x (List.mem_of_getElem? hx)] at this
  | @ref l ad h1 h2 h3 ih =>
    unfold A.ren
    refine .ref ad h1 (fun j x hx => ?_) (fun j x y hx hy => ?_)
    · obtain ⟨z, hz, rfl⟩ := renL_get hx; exact h2 j z hz
    · obtain ⟨z, hz, rfl⟩ := renL_get hx; exact ih j z y hz hy
  | own h => unfold A.ren; rw [← st.b _ h]; exact .own (st.lt _ h)
  | ownx h => unfold A.ren; rw [← st.b _ h]; exact .ownx (st.lt _ h)
  | sq h => unfold A.ren; rw [← st.q _ h]; exact .sq (st.lt _ h)
  | vw h h1 h2 h3 => unfold A.ren; exact .vw (st.lt _ h) h1 h2 (fun hn => by rw [st.q _ h]; exact h3 hn)
  | el h => unfold A.ren; rw [← st.q _ h]; exact .el (st.lt _ h)
  | mp h => unfold A.ren; rw [← st.b _ h]; exact .mp (st.lt _ h)
  | nl a => exact .nl a
  | it q vs y h => exact .it q vs y h
  | fn vs us h1 _ h3 _ ih2 ih4 =>
    unfold A.ren
    exact .fn vs us (by rw [renL_length]; exact h1) (fun j x v hx hv => by obtain ⟨z, hz, rfl⟩ := renL_get hx; exact ih2 j z v hz hv) (by rw [renL_length]; exact h3) (fun j x v hx hv => by obtain ⟨z, hz, rfl⟩ := renL_get hx; exact ih4 j z v hz hv)
  | agg vs h1 _ ih => unfold A.ren; exact .agg vs (by rw [renL_length]; exact h1) (fun j x v hx hv => by obtain ⟨z, hz, rfl⟩ := renL_get hx; exact ih j z v hz hv)
  | tup vs h1 _ ih => unfold A.ren; exact .tup vs (by rw [renL_length]; exact h1) (fun j x v hx hv => by obtain ⟨z, hz, rfl⟩ := renL_get hx; exact ih j z v hz hv)
  | dead y => exact .dead y
theorem HL.ren (st : Ren ρ N nx N' nx') : ∀ {xs : List A} {vs : List Value}, HL F N nx R xs vs → HL F N' nx' R (renL ρ xs) vs
  | [], _, h => by rw [show renL ρ [] = [] from by simp [renL]]; exact h
  | x :: r, _, ⟨v, vs, h1, h2, h3⟩ => by
    rw [show renL ρ (x :: r) = x.ren ρ :: renL ρ r from by simp [renL]]
    exact ⟨v, vs, h1, h2.ren st, HL.ren st h3⟩
end

/-! ### objects -/
def foot (N : Nm) (i : Nat) : Ob → Nat → Prop
  | .box _ _, g => g = N.b i
  | .map _ _ _, g => g = N.b i
  | .sit _ _, g => g = N.b i
  | .arr _ _ _, g => blkOf (N.q i) = some g
def Foot (N : Nm) (o : Objs) (g : Nat) : Prop := ∃ i ob, lookO i o = some ob ∧ foot N i ob g
/-- Cells as a value. -/
def aggA (cs : List A) : A := match rawL cs with
  | some xs => .v (.agg xs.toArray)
  | none => .agg cs
/-- A datum as a value. -/
def valA (c : TC) (d : U c) : A := bif c.isAgg then aggA (enc c d) else (match enc c d with
  | x :: _ => x
  | [] => .dead)
def keyV (c : TC) (d : U c) : Value := match valA c d with
  | .v x => x
  | _ => undef
/-- A row of one's own: all of its block, or none (no room at all). -/
def OwnR (R : World) (e : TypeId) (size : Nat) (v : Value) (n : Nat) (zs : List Value) : Prop :=
  zs.length = n * size ∧ ((∃ a, v = .slice a 0 0 ∧ n = 0) ∨
    ∃ g cap cur, v = .slice (some ⟨g, 0, none⟩) n (cap + 1) ∧ R.heap[g]? = some (.cells cur e (0, 0)) ∧ n ≤ cap + 1 ∧ cap + 1 ≤ maxLen ∧ cur.size = (cap + 1) * size ∧ cur.toList.take (n * size) = zs)
def ObR (F : Nat → Prop) (N : Nm) (nx : Nat) (R : World) (i : Nat) : Ob → Prop
  | .box e cs => ∃ vs, HL F N nx R cs vs ∧ R.heap[N.b i]? = some (.cells vs.toArray e (0, 0))
  | .arr e size els => ∃ zs, OwnR R e size (N.q i) els.n zs ∧ ∀ k, k < els.n → HL F N nx R (els.nth k) ((zs.drop (k * size)).take size)
  | .map k v l => ∃ (es : List MapEntry) (clock : Nat), R.heap[N.b i]? = some (.map es.toArray clock) ∧ es.length = l.length ∧ (∀ (j : Nat) (p : U k × U v) (e : MapEntry), l[j]? = some p → es[j]? = some e → e.key = keyV k p.1 ∧ Hv F N nx R (valA v p.2) e.val)
  | .sit s pos => R.heap[N.b i]? = some (.stringIter s pos)

theorem OwnR.keep {R R' : World} {e : TypeId} {size n : Nat} {v : Value} {zs : List Value} (h : OwnR R e size v n zs) (hk : ∀ g, blkOf v = some g → R'.heap[g]? = R.heap[g]?) : OwnR R' e size v n zs := by
  refine ⟨h.1, ?_⟩
  rcases h.2 with h0 | ⟨g, cap, cur, h1, h2, h3⟩
  · exact .inl h0
  · exact .inr ⟨g, cap, cur, h1, (hk g (by rw [h1]; rfl)).trans h2, h3⟩
theorem OwnR.lt {R : World} {e : TypeId} {size n : Nat} {v : Value} {zs : List Value} (h : OwnR R e size v n zs) {g : Nat} (hg : blkOf v = some g) : g < R.heap.size := by
  rcases h.2 with ⟨a, e1, _⟩ | ⟨g', cap, cur, e1, e3, _⟩
  · rw [e1] at hg; cases a <;> cases hg
  · rw [e1] at hg
    cases hg
    exact blk_lt e3
theorem OwnR.of_owns {R : World} {base : Nat} {e : TypeId} {size n : Nat} {v : Value} {zs : List Value} (h : R.ownsRow base e size v n zs) : OwnR R e size v n zs := by
  refine ⟨h.1, ?_⟩
  rcases h.2 with ⟨e1, e2⟩ | ⟨g, cap, cur, e1, e2, e3, e4, e5, e6, e7⟩
  · exact .inl ⟨none, e1, e2⟩
  · cases cap with
    | zero =>
      have : n = 0 := by omega
      subst this
      exact .inl ⟨_, e1, rfl⟩
    | succ c => exact .inr ⟨g, c, cur, e1, e3, e4, e5, e6, e7⟩
theorem OwnR.form {R : World} {e : TypeId} {size n : Nat} {v : Value} {zs : List Value} (h : OwnR R e size v n zs) : ∃ a c, v = .slice a n c ∧ n ≤ c := by
  rcases h.2 with ⟨a, e1, e2⟩ | ⟨g, cap, cur, e1, _, e4, _⟩
  · exact ⟨a, 0, by rw [e1, e2], by omega⟩
  · exact ⟨_, _, e1, e4⟩

section
variable {F F' : Nat → Prop} {N N' : Nm} {nx nx' : Nat} {R R' : World} {i : Nat} {ob : Ob}
theorem ObR.step (st : Ext F N nx R F' N' nx' R') (hi : i < nx) (hk : ∀ g, foot N i ob g → R'.heap[g]? = R.heap[g]?) (h : ObR F N nx R i ob) : ObR F' N' nx' R' i ob := by
  cases ob with
  | box e cs =>
    obtain ⟨vs, h1, h2⟩ := h
    exact ⟨vs, h1.step st, by rw [st.b i hi]; exact (hk _ rfl).trans h2⟩
  | arr e size els =>
    obtain ⟨zs, h1, h2⟩ := h
    exact ⟨zs, by rw [st.q i hi]; exact h1.keep hk, fun k hk' => (h2 k hk').step st⟩
  | map k v l =>
    obtain ⟨es, cl, h1, h2, h3⟩ := h
    exact ⟨es, cl, by rw [st.b i hi]; exact (hk _ rfl).trans h1, h2, fun j p e hp he => ⟨(h3 j p e hp he).1, (h3 j p e hp he).2.step st⟩⟩
  | sit s pos =>
    show R'.heap[N'.b i]? = _
    rw [st.b i hi]
    exact (hk _ rfl).trans h
theorem ObR.lt (h : ObR F N nx R i ob) {g : Nat} (hg : foot N i ob g) : g < R.heap.size := by
  cases ob with
  | box e cs => obtain ⟨vs, _, h2⟩ := h; cases hg; exact blk_lt h2
  | arr e size els => obtain ⟨zs, h1, _⟩ := h; exact h1.lt hg
  | map k v l => obtain ⟨es, cl, h2, _⟩ := h; cases hg; exact blk_lt h2
  | sit s pos => cases hg; exact blk_lt h
theorem foot_step (st : Ext F N nx R F' N' nx' R') (hi : i < nx) {g : Nat} : foot N' i ob g ↔ foot N i ob g := by
  cases ob <;> simp only [foot, st.b i hi, st.q i hi]
end

def Els.ren (ρ : Nat → Nat) : Els → Els
  | .lst cs => .lst (cs.map (renL ρ))
  | .ty c l => .ty c l
def Ob.ren (ρ : Nat → Nat) : Ob → Ob
  | .box e cs => .box e (renL ρ cs)
  | .arr e size els => .arr e size (els.ren ρ)
  | .map k v l => .map k v l
  | .sit s pos => .sit s pos
theorem nthL_get : ∀ (cs : List (List A)) (k : Nat), nthL cs k = cs.getD k []
  | [], _ => by simp [nthL]
  | x :: r, 0 => by simp [nthL]
  | x :: r, k + 1 => by simp [nthL, nthL_get r k]
theorem aggA_raw {cs : List A} {xs : List Value} (h : rawL cs = some xs) : aggA cs = .v (.agg xs.toArray) := by unfold aggA; rw [h]
theorem valA_ren (ρ : Nat → Nat) (c : TC) (d : U c) : (valA c d).ren ρ = valA c d := by
  have hl : renL ρ (enc c d) = enc c d := by
    rw [renL_eq]
    exact (List.map_congr_left (g := id) fun x hx => enc_ren ρ c d x hx).trans (List.map_id _)
  unfold valA
  cases c.isAgg with
  | true =>
    show (aggA (enc c d)).ren ρ = aggA (enc c d)
    unfold aggA
    split
    · rfl
    · unfold A.ren; rw [hl]
  | false =>
    show A.ren ρ (match enc c d with | x :: _ => x | [] => .dead) = _
    have hp := enc_ren ρ c d
    split
    · rename_i x r hx
      exact hp x (by rw [hx]; exact List.mem_cons_self ..)
    · rfl
section
variable {F : Nat → Prop} {N N' : Nm} {nx nx' : Nat} {R : World} {ρ : Nat → Nat} {i : Nat} {ob : Ob}
theorem ObR.ren (st : Ren ρ N nx N' nx') (hi : i < nx) (h : ObR F N nx R i ob) : ObR F N' nx' R (ρ i) (ob.ren ρ) := by
  cases ob with
  | box e cs =>
    obtain ⟨vs, h1, h2⟩ := h
    exact ⟨vs, h1.ren st, by rw [st.b i hi]; exact h2⟩
  | arr e size els =>
    obtain ⟨zs, h1, h2⟩ := h
    cases els with
    | lst cs =>
      have hn : (Els.ren ρ (.lst cs)).n = cs.length := by simp [Els.ren, Els.n]
      refine ⟨zs, by rw [st.q i hi, hn]; exact h1, fun k hk => ?_⟩
      rw [hn] at hk
      have := (h2 k hk).ren st
      show HL F N' nx' R (nthL (cs.map (renL ρ)) k) _
      rw [nthL_get, List.getD_eq_getElem?_getD, List.getElem?_map]
      have h3 : (Els.lst cs).nth k = cs.getD k [] := nthL_get cs k
      rw [h3, List.getD_eq_getElem?_getD] at this
      have hk' : cs[k]? = some cs[k] := List.getElem?_eq_getElem hk
      rw [hk'] at this ⊢
      exact this
    | ty c l =>
      refine ⟨zs, by rw [st.q i hi]; exact h1, fun k hk => ?_⟩
      have := (h2 k hk).ren st
      have e : renL ρ ((Els.ty c l).nth k) = (Els.ty c l).nth k := by
        show renL ρ (enc c _) = enc c _
        rw [renL_eq]
        exact (List.map_congr_left (g := id) fun x hx => enc_ren ρ c _ x hx).trans (List.map_id _)
      rw [e] at this
      exact this
  | map k v l =>
    obtain ⟨es, cl, h1, h2, h3⟩ := h
    refine ⟨es, cl, by rw [st.b i hi]; exact h1, h2, fun j p e hp he => ⟨(h3 j p e hp he).1, ?_⟩⟩
    have := (h3 j p e hp he).2.ren st
    rwa [valA_ren] at this
  | sit s pos =>
    show R.heap[N'.b (ρ i)]? = _
    rw [st.b i hi]
    exact h
theorem foot_ren (st : Ren ρ N nx N' nx') (hi : i < nx) {g : Nat} : foot N' (ρ i) (ob.ren ρ) g ↔ foot N i ob g := by
  cases ob <;> simp only [foot, Ob.ren, st.b i hi, st.q i hi]
end

structure HRel (F : Nat → Prop) (N : Nm) (nx : Nat) (o : Objs) (R : World) : Prop where
  flt : ∀ g, F g → g < R.heap.size
  ob : ∀ i ob, lookO i o = some ob → i < nx ∧ ObR F N nx R i ob
  ff : ∀ i ob g, lookO i o = some ob → foot N i ob g → ¬ F g
  sep : ∀ i j x y g, lookO i o = some x → lookO j o = some y → foot N i x g → foot N j y g → i = j

/-- One world and what is said of it, and a later one: what no object is made of stays. -/
structure Step (F : Nat → Prop) (N : Nm) (nx : Nat) (o : Objs) (R : World) (F' : Nat → Prop) (N' : Nm) (nx' : Nat) (o' : Objs) (R' : World) : Prop where
  le : nx ≤ nx'
  b : ∀ i, i < nx → N'.b i = N.b i
  q : ∀ i, i < nx → N'.q i = N.q i
  f : ∀ g, F g → F' g
  fnew : ∀ g, F' g → F g ∨ Foot N o g ∨ R.heap.size ≤ g
  foot : ∀ g, Foot N' o' g → Foot N o g ∨ R.heap.size ≤ g
  os : R'.os = R.os
  tape : R'.tape = R.tape
  output : R'.output = R.output
  size : R.heap.size ≤ R'.heap.size
  keep : ∀ g, g < R.heap.size → ¬ Foot N o g → R'.heap[g]? = R.heap[g]?

section
variable {F F' F'' : Nat → Prop} {N N' N'' : Nm} {nx nx' nx'' : Nat} {o o' o'' o1 o1' : Objs} {R R' R'' : World}
theorem Step.refl : Step F N nx o R F N nx o R := ⟨Nat.le_refl _, fun _ _ => rfl, fun _ _ => rfl, fun _ h => h, fun _ h => .inl h, fun _ h => .inl h, rfl, rfl, rfl, Nat.le_refl _, fun _ _ _ => rfl⟩
theorem Step.trans (h : Step F N nx o R F' N' nx' o' R') (k : Step F' N' nx' o' R' F'' N'' nx'' o'' R'') : Step F N nx o R F'' N'' nx'' o'' R'' where
  le := Nat.le_trans h.le k.le
  b i hi := (k.b i (Nat.lt_of_lt_of_le hi h.le)).trans (h.b i hi)
  q i hi := (k.q i (Nat.lt_of_lt_of_le hi h.le)).trans (h.q i hi)
  f g hg := k.f g (h.f g hg)
  fnew g hg := by
    rcases k.fnew g hg with h1 | h1 | h1
    · exact h.fnew g h1
    · exact .inr (h.foot g h1)
    · exact .inr (.inr (Nat.le_trans h.size h1))
  foot g hg := by
    rcases k.foot g hg with h1 | h1
    · exact h.foot g h1
    · exact .inr (Nat.le_trans h.size h1)
  os := k.os.trans h.os
  tape := k.tape.trans h.tape
  output := k.output.trans h.output
  size := Nat.le_trans h.size k.size
  keep g hg hn := by
    refine (k.keep g (Nat.lt_of_lt_of_le hg h.size) fun hf => ?_).trans (h.keep g hg hn)
    rcases h.foot g hf with h1 | h1
    · exact hn h1
    · omega
theorem Step.ext (hp : HRel F N nx o R) (h : Step F N nx o R F' N' nx' o' R') : Ext F N nx R F' N' nx' R' :=
  ⟨h.le, h.b, h.q, h.f, fun g hg => h.keep g (hp.flt g hg) fun ⟨i, ob, h1, h2⟩ => hp.ff i ob g h1 h2 hg⟩
theorem Step.below (h : Step F N nx [] R F' N' nx' o' R') : Below R.heap.size R R' :=
  ⟨h.os, h.tape, h.output, h.size, fun g hg => h.keep g hg fun ⟨i, ob, h1, _⟩ => by cases h1⟩
theorem Step.of_below (hb : Below R.heap.size R R') : Step F N nx o R F N nx o R' :=
  ⟨Nat.le_refl _, fun _ _ => rfl, fun _ _ => rfl, fun _ h => h, fun _ h => .inl h, fun _ h => .inl h, hb.os, hb.tape, hb.output, hb.size, fun g hg _ => hb.block g hg⟩
/-- The world has grown. -/
theorem HRel.grow (h : HRel F N nx o R) (hb : Below R.heap.size R R') : HRel F N nx o R' ∧ Ext F N nx R F N nx R' := by
  have st : Ext F N nx R F N nx R' := ⟨Nat.le_refl _, fun _ _ => rfl, fun _ _ => rfl, fun _ h => h, fun g hg => hb.block g (h.flt g hg)⟩
  exact ⟨⟨fun g hg => Nat.lt_of_lt_of_le (h.flt g hg) hb.size, fun i ob hi => ⟨(h.ob i ob hi).1, (h.ob i ob hi).2.step st (h.ob i ob hi).1 fun g hg => hb.block g ((h.ob i ob hi).2.lt hg)⟩, h.ff, h.sep⟩, st⟩
/-- Objects are forgotten. -/
theorem HRel.weak (h : HRel F N nx o R) (ho : ∀ i ob, lookO i o' = some ob → lookO i o = some ob) : HRel F N nx o' R :=
  ⟨h.flt, fun i ob hi => h.ob i ob (ho i ob hi), fun i ob g hi hg => h.ff i ob g (ho i ob hi) hg, fun i j x y g hi hj => h.sep i j x y g (ho i x hi) (ho j y hj)⟩
theorem Foot.weak (ho : ∀ i ob, lookO i o' = some ob → lookO i o = some ob) {g : Nat} (h : Foot N o' g) : Foot N o g := by
  obtain ⟨i, ob, h1, h2⟩ := h
  exact ⟨i, ob, ho i ob h1, h2⟩
theorem Step.weak (ho : ∀ i ob, lookO i o' = some ob → lookO i o = some ob) : Step F N nx o R F N nx o' R :=
  ⟨Nat.le_refl _, fun _ _ => rfl, fun _ _ => rfl, fun _ h => h, fun _ h => .inl h, fun _ h => .inl (Foot.weak ho h), rfl, rfl, rfl, Nat.le_refl _, fun _ _ _ => rfl⟩
/-- One object is new, or other than it was; the blocks of T may have turned. -/
theorem HRel.upd (h : HRel F N nx o R) {i0 : Nat} {ob0 : Ob} {T : Nat → Prop} (hos : R'.os = R.os) (htape : R'.tape = R.tape) (hout : R'.output = R.output) (hsz : R.heap.size ≤ R'.heap.size)
    (hT : ∀ g, T g → Foot N o g) (keep : ∀ g, g < R.heap.size → ¬ T g → R'.heap[g]? = R.heap[g]?)
    (hnx : nx ≤ nx') (hb : ∀ i, i < nx → N'.b i = N.b i) (hq : ∀ i, i < nx → N'.q i = N.q i)
    (old : ∀ i ob, i ≠ i0 → lookO i o' = some ob → lookO i o = some ob ∧ ∀ g, foot N i ob g → ¬ T g)
    (new : ∀ ob, lookO i0 o' = some ob → ob = ob0) (hi0 : i0 < nx') (hR : Ext F N nx R F N' nx' R' → ObR F N' nx' R' i0 ob0)
    (nf : ∀ g, foot N' i0 ob0 g → R.heap.size ≤ g ∨ T g) : HRel F N' nx' o' R' ∧ Step F N nx o R F N' nx' o' R' := by
  have hTF : ∀ g, T g → ¬ F g := fun g ht hf => by
    obtain ⟨i, ob, h1, h2⟩ := hT g ht
    exact h.ff i ob g h1 h2 hf
  have st : Ext F N nx R F N' nx' R' := ⟨hnx, hb, hq, fun _ h => h, fun g hg => keep g (h.flt g hg) fun ht => hTF g ht hg⟩
  have hold : ∀ i ob, i ≠ i0 → lookO i o' = some ob → i < nx ∧ ObR F N nx R i ob ∧ (∀ g, foot N i ob g → ¬ T g) ∧ lookO i o = some ob := fun i ob hi hl => by
    obtain ⟨h1, h2⟩ := old i ob hi hl
    exact ⟨(h.ob i ob h1).1, (h.ob i ob h1).2, h2, h1⟩
  refine ⟨⟨fun g hg => Nat.lt_of_lt_of_le (h.flt g hg) hsz, fun i ob hi => ?_, fun i ob g hi hg => ?_, fun i j x y g hi hj hx hy => ?_⟩, hnx, hb, hq, fun _ h => h, fun _ h => .inl h, fun g ⟨i, ob, h1, h2⟩ => ?_, hos, htape, hout, hsz, fun g hg hn => keep g hg fun ht => hn (hT g ht)⟩
  · by_cases e : i = i0
    · subst e
      rw [new ob hi]
      exact ⟨hi0, hR st⟩
    · obtain ⟨h1, h2, h3, _⟩ := hold i ob e hi
      exact ⟨Nat.lt_of_lt_of_le h1 hnx, h2.step st h1 fun g hg => keep g (h2.lt hg) (h3 g hg)⟩
  · by_cases e : i = i0
    · subst e
      rw [new ob hi] at hg
      intro hf
      rcases nf g hg with h1 | h1
      · have := h.flt g hf; omega
      · exact hTF g h1 hf
    · obtain ⟨h1, h2, h3, h4⟩ := hold i ob e hi
      exact h.ff i ob g h4 ((foot_step st h1).1 hg)
  · have one : ∀ i j x y, i = i0 → j ≠ i0 → lookO i o' = some x → lookO j o' = some y → foot N' i x g → foot N' j y g → i = j := fun i j x y ei ej hi hj hx hy => by
      subst ei
      rw [new x hi] at hx
      obtain ⟨h1, h2, h3, h4⟩ := hold j y ej hj
      have hy' := (foot_step st h1).1 hy
      rcases nf g hx with hge | ht
      · have := h2.lt hy'
        omega
      · exact absurd ht (h3 g hy')
    by_cases ei : i = i0
    · by_cases ej : j = i0
      · rw [ei, ej]
      · exact one i j x y ei ej hi hj hx hy
    · by_cases ej : j = i0
      · exact (one j i y x ej ei hj hi hy hx).symm
      · obtain ⟨h1, _, _, h4⟩ := hold i x ei hi
        obtain ⟨h1', _, _, h4'⟩ := hold j y ej hj
        exact h.sep i j x y g h4 h4' ((foot_step st h1).1 hx) ((foot_step st h1').1 hy)
  · by_cases e : i = i0
    · subst e
      rw [new ob h1] at h2
      rcases nf g h2 with h3 | h3
      · exact .inr h3
      · exact .inl (hT g h3)
    · obtain ⟨h3, _, _, h4⟩ := hold i ob e h1
      exact .inl ⟨i, ob, h4, (foot_step st h3).1 h2⟩

/-! ### a part of the objects, and the others beside -/
theorem lookO_append (i : Nat) : ∀ (l r : Objs), lookO i (l ++ r) = (if (l.any fun e => Nat.beq e.1 i) then lookO i l else lookO i r)
  | [], r => by simp
  | (k, x) :: l, r => by
    show (bif Nat.beq k i then x else lookO i (l ++ r)) = _
    cases hb : Nat.beq k i with
    | true => rw [List.any_cons, hb]; simp [hb, lookO]
    | false => rw [cond_false, lookO_append i l r, List.any_cons, hb, Bool.false_or]; simp [hb, lookO]
/-- The objects of o that are not in the list. -/
def without (ks : List Nat) : Objs → Objs
  | [] => []
  | (k, x) :: r => (k, bif ks.any (Nat.beq k) then none else x) :: without ks r
theorem lookO_without {ks : List Nat} {i : Nat} : ∀ {o : Objs} {ob : Ob}, lookO i (without ks o) = some ob → lookO i o = some ob ∧ ks.any (Nat.beq i) = false
  | [], _, h => by cases h
  | (k, x) :: r, ob, h => by
    have h' : (bif Nat.beq k i then (bif ks.any (Nat.beq k) then none else x) else lookO i (without ks r)) = some ob := h
    show (bif Nat.beq k i then x else lookO i r) = some ob ∧ _
    cases hb : Nat.beq k i with
    | true =>
      rw [hb] at h'
      obtain rfl := Nat.eq_of_beq_eq_true hb
      cases hk : ks.any (Nat.beq k) with
      | true => rw [hk] at h'; cases h'
      | false => rw [hk] at h'; exact ⟨h', rfl⟩
    | false => rw [hb] at h'; exact lookO_without h'
/-- What is done to a part of the objects leaves the others as they were. -/
theorem HRel.frame (h : HRel F N nx o R) (h1 : ∀ i ob, lookO i o1 = some ob → lookO i o = some ob) (st : Step F N nx o1 R F' N' nx' o1' R') (hp : HRel F' N' nx' o1' R')
    (ho : ∀ i ob, lookO i o' = some ob → lookO i o1' = some ob ∨ (lookO i o = some ob ∧ lookO i o1 = none)) : HRel F' N' nx' o' R' ∧ Step F N nx o R F' N' nx' o' R' := by
  have hx : Ext F N nx R F' N' nx' R' := st.ext (h.weak h1)
  have rest : ∀ i ob, lookO i o = some ob → lookO i o1 = none → i < nx ∧ ObR F N nx R i ob ∧ (∀ g, foot N i ob g → ¬ Foot N o1 g) := fun i ob hi hn => by
    refine ⟨(h.ob i ob hi).1, (h.ob i ob hi).2, fun g hg ⟨j, y, hj, hy⟩ => ?_⟩
    have := h.sep i j ob y g hi (h1 j y hj) hg hy
    subst this
    rw [hn] at hj
    cases hj
  have far : ∀ i ob j y g, lookO i o = some ob → lookO i o1 = none → lookO j o1' = some y → foot N i ob g → foot N' j y g → False := fun i ob j y g hi hn hj hx1 hy => by
    obtain ⟨_, e2, e3⟩ := rest i ob hi hn
    rcases st.foot g ⟨j, y, hj, hy⟩ with h2 | h2
    · exact e3 g hx1 h2
    · have := e2.lt hx1; omega
  refine ⟨⟨hp.flt, fun i ob hi => ?_, fun i ob g hi hg => ?_, fun i j x y g hi hj hx1 hy => ?_⟩, st.le, st.b, st.q, st.f, fun g hg => ?_, fun g hg => ?_, st.os, st.tape, st.output, st.size, fun g hg hn => st.keep g hg fun hf => hn (Foot.weak h1 hf)⟩
  · rcases ho i ob hi with h2 | ⟨h2, h3⟩
    · exact hp.ob i ob h2
    · obtain ⟨e1, e2, e3⟩ := rest i ob h2 h3
      exact ⟨Nat.lt_of_lt_of_le e1 st.le, e2.step hx e1 fun g hg => st.keep g (e2.lt hg) (e3 g hg)⟩
  · rcases ho i ob hi with h2 | ⟨h2, h3⟩
    · exact hp.ff i ob g h2 hg
    · obtain ⟨e1, e2, e3⟩ := rest i ob h2 h3
      have hg' := (foot_step hx e1).1 hg
      intro hf
      rcases st.fnew g hf with h4 | h4 | h4
      · exact h.ff i ob g h2 hg' h4
      · exact e3 g hg' h4
      · have := e2.lt hg'; omega
  · rcases ho i x hi with h2 | ⟨h2, h3⟩
    · rcases ho j y hj with h4 | ⟨h4, h5⟩
      · exact hp.sep i j x y g h2 h4 hx1 hy
      · obtain ⟨e1, _, _⟩ := rest j y h4 h5
        exact (far j y i x g h4 h5 h2 ((foot_step hx e1).1 hy) hx1).elim
    · obtain ⟨e1, _, _⟩ := rest i x h2 h3
      rcases ho j y hj with h4 | ⟨h4, h5⟩
      · exact (far i x j y g h2 h3 h4 ((foot_step hx e1).1 hx1) hy).elim
      · obtain ⟨e2, _, _⟩ := rest j y h4 h5
        exact h.sep i j x y g h2 h4 ((foot_step hx e1).1 hx1) ((foot_step hx e2).1 hy)
  · rcases st.fnew g hg with h2 | h2 | h2
    · exact .inl h2
    · exact .inr (.inl (Foot.weak h1 h2))
    · exact .inr (.inr h2)
  · obtain ⟨i, ob, hi, h2⟩ := hg
    rcases ho i ob hi with h3 | ⟨h3, h4⟩
    · rcases st.foot g ⟨i, ob, h3, h2⟩ with h5 | h5
      · exact .inl (Foot.weak h1 h5)
      · exact .inr h5
    · obtain ⟨e1, _, _⟩ := rest i ob h3 h4
      exact .inl ⟨i, ob, h3, (foot_step hx e1).1 h2⟩
end
end Go.Proofs.Yteebobbhhgmeiaa
