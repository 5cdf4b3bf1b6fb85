/- Loops that look along a list; which names and groups may be: plain Lean. -/
import Derived.Test.YteebobbhhgmeiaaTW
import Derived.Test.YteebobbhhgmeiaaNm
import Derived.Laws.RangeString
import Derived.Laws.RangeAny
namespace Go.Proofs.Yteebobbhhgmeiaa
open Go.RowKit

theorem scan_from {X : Type} (mk : Nat → X) (n : Nat) (stop : Nat → Bool) (next : X → X) (goes : X → Cnd) (ps : X → List Prop)
    (hg : ∀ i, i ≤ n → (∀ j, j < i → stop j = false) → cval (goes (mk i)) = (decide (i < n) && !stop i)) (hn : ∀ i, i < n → (∀ j, j < i + 1 → stop j = false) → next (mk i) = mk (i + 1)) (hp : ∀ i, i ≤ n → (∀ j, j < i → stop j = false) → ∀ p ∈ ps (mk i), p) :
    ∀ (f i : Nat), i ≤ n → n ≤ i + f → (∀ j, j < i → stop j = false) →
    needX next goes ps f (mk i) ∧ ∃ k, k ≤ n ∧ iterX next goes f (mk i) = mk k ∧ (∀ j, j < k → stop j = false) ∧ (k < n → stop k = true)
  | 0, i, hi, hf, hs => by
    have hc := hg i hi hs
    have : i = n := by omega
    rw [decide_eq_false (by omega), Bool.false_and] at hc
    exact ⟨⟨hp i hi hs, hc⟩, i, hi, rfl, hs, fun h => by omega⟩
  | f + 1, i, hi, hf, hs => by
    have hc := hg i hi hs
    cases hb : cval (goes (mk i)) with
    | false =>
      have e : iterX next goes (f + 1) (mk i) = mk i := by
        show (bif cval (goes (mk i)) then _ else mk i) = mk i
        rw [hb]; rfl
      rw [e]
      refine ⟨⟨hp i hi hs, fun h => by rw [hb] at h; cases h⟩, i, hi, rfl, hs, fun h => ?_⟩
      rw [hb, decide_eq_true h, Bool.true_and] at hc
      cases hst : stop i with
      | true => rfl
      | false => rw [hst] at hc; cases hc
    | true =>
      rw [hb] at hc
      have h1 : i < n := by
        cases hd : decide (i < n) with
        | true => exact of_decide_eq_true hd
        | false => rw [hd] at hc; cases hc
      have h2 : stop i = false := by
        cases hst : stop i with
        | false => rfl
        | true => rw [hst, Bool.and_comm] at hc; cases hc
      have hs' : ∀ j, j < i + 1 → stop j = false := fun j hj => by
        by_cases h : j < i
        · exact hs j h
        · obtain rfl : j = i := by omega
          exact h2
      have e : iterX next goes (f + 1) (mk i) = iterX next goes f (mk (i + 1)) := by
        show (bif cval (goes (mk i)) then iterX next goes f (next (mk i)) else mk i) = _
        rw [hb, hn i h1 hs']; rfl
      obtain ⟨g1, g2⟩ := scan_from mk n stop next goes ps hg hn hp f (i + 1) h1 (by omega) hs'
      rw [e]
      exact ⟨⟨hp i hi hs, fun _ => by rw [hn i h1 hs']; exact g1⟩, g2⟩
/-- **A loop in closed form: mk i is the state behind i rounds; it goes on while i < n and stop i is false.** -/
theorem scan {X : Type} (mk : Nat → X) (n : Nat) (stop : Nat → Bool) (next : X → X) (goes : X → Cnd) (ps : X → List Prop) (f : Nat) (x : X) (hx : x = mk 0) (hf : n ≤ f)
    (hg : ∀ i, i ≤ n → (∀ j, j < i → stop j = false) → cval (goes (mk i)) = (decide (i < n) && !stop i)) (hn : ∀ i, i < n → (∀ j, j < i + 1 → stop j = false) → next (mk i) = mk (i + 1)) (hp : ∀ i, i ≤ n → (∀ j, j < i → stop j = false) → ∀ p ∈ ps (mk i), p) :
    needX next goes ps f x ∧ ∃ k, k ≤ n ∧ iterX next goes f x = mk k ∧ (∀ j, j < k → stop j = false) ∧ (k < n → stop k = true) := by
  subst hx
  exact scan_from mk n stop next goes ps hg hn hp f 0 (Nat.zero_le _) (by omega) fun j h => absurd h (Nat.not_lt_zero _)
theorem wsucc {i : Nat} (h : i < 9223372036854775807) : IntKind.i64.wrap ((i : Int) + 1) = ((i + 1 : Nat) : Int) := by rw [i64_in (by omega)]; omega
theorem dlt {i n : Nat} : decide ((i : Int) < (n : Int)) = decide (i < n) := by
  by_cases h : i < n
  · rw [decide_eq_true h, decide_eq_true (by omega)]
  · rw [decide_eq_false h, decide_eq_false (by omega)]
theorem nn (b : Bool) : (!!b) = b := Bool.not_not b
/-- All along a list: where a scan has stopped. -/
theorem all_scan {α : Type} (l : List α) (d : α) (p : α → Bool) (k : Nat) (hk : k ≤ l.length) (h1 : ∀ j, j < k → p (l.getD j d) = true) (h2 : k < l.length → p (l.getD k d) = false) : l.all p = decide (¬ k < l.length) := by
  by_cases h : k < l.length
  · rw [decide_eq_false (by omega)]
    have := h2 h
    rw [List.getD_eq_getElem?_getD, List.getElem?_eq_getElem h, Option.getD_some] at this
    cases ha : l.all p with
    | false => rfl
    | true => rw [List.all_eq_true.1 ha _ (List.getElem_mem h)] at this; cases this
  · rw [decide_eq_true (by omega)]
    refine List.all_eq_true.2 fun x hx => ?_
    obtain ⟨i, hi, rfl⟩ := List.mem_iff_getElem.1 hx
    have := h1 i (by omega)
    rw [List.getD_eq_getElem?_getD, List.getElem?_eq_getElem hi, Option.getD_some] at this
    exact this

/-- No longer than anything can be. -/
def wideN (n : Nat) : Prop := n ≤ 9223372036854775807
def allN (n : Nat) (p : Nat → Bool) : Bool := (List.range n).all p
theorem allN_iff {n : Nat} {p : Nat → Bool} : allN n p = true ↔ ∀ i, i < n → p i = true := by
  unfold allN
  rw [List.all_eq_true]
  exact ⟨fun h i hi => h i (List.mem_range.2 hi), fun h i hi => h i (List.mem_range.1 hi)⟩
theorem allN_succ (n : Nat) (p : Nat → Bool) : allN (n + 1) p = (allN n p && p n) := by
  unfold allN
  rw [List.range_succ, List.all_append]
  simp
theorem allN_congr {n : Nat} {p q : Nat → Bool} (h : ∀ i, i < n → p i = q i) : allN n p = allN n q := by
  rw [Bool.eq_iff_iff, allN_iff, allN_iff]
  exact ⟨fun g i hi => (h i hi) ▸ g i hi, fun g i hi => (h i hi).symm ▸ g i hi⟩
/-- A loop that leaves at the first bad one. -/
theorem scanB {X : Type} (mk : Nat → X) (n : Nat) (bad : Nat → Bool) (next : X → X) (goes : X → Cnd) (ps : X → List Prop) (f : Nat) (x : X) (hx : x = mk 0) (hf : n ≤ f)
    (hg : ∀ i, i ≤ n → (∀ j, j < i → bad j = false) → cval (goes (mk i)) = (decide (i < n) && !bad i)) (hn : ∀ i, i < n → (∀ j, j < i + 1 → bad j = false) → next (mk i) = mk (i + 1)) (hp : ∀ i, i ≤ n → (∀ j, j < i → bad j = false) → ∀ p ∈ ps (mk i), p) :
    needX next goes ps f x ∧ ∃ k, k ≤ n ∧ iterX next goes f x = mk k ∧ (∀ j, j < k → bad j = false) ∧ (k < n → bad k = true) ∧ (decide (k < n) && bad k) = !allN n (fun i => !bad i) := by
  obtain ⟨h1, k, hk, h2, h3, h4⟩ := scan mk n bad next goes ps f x hx hf hg hn hp
  refine ⟨h1, k, hk, h2, h3, h4, ?_⟩
  by_cases h : k < n
  · rw [decide_eq_true h, h4 h]
    cases ha : allN n (fun i => !bad i) with
    | false => rfl
    | true => have := allN_iff.1 ha k h; rw [h4 h] at this; cases this
  · rw [decide_eq_false h, allN_iff.2 (fun i hi => by rw [h3 i (by omega)]; rfl)]
    rfl
theorem all_N {α : Type} (l : List α) (d : α) (p : α → Bool) : l.all p = allN l.length (fun i => p (l.getD i d)) := by
  rw [Bool.eq_iff_iff, List.all_eq_true, allN_iff]
  constructor
  · intro h i hi
    rw [List.getD_eq_getElem?_getD, List.getElem?_eq_getElem hi, Option.getD_some]
    exact h _ (List.getElem_mem hi)
  · intro h x hx
    obtain ⟨i, hi, rfl⟩ := List.mem_iff_getElem.1 hx
    have := h i hi
    rw [List.getD_eq_getElem?_getD, List.getElem?_eq_getElem hi, Option.getD_some] at this
    exact this
theorem zip_N {α β : Type} (l : List α) (r : List β) (d : α) (e : β) (p : α → β → Bool) (h : r.length = l.length) : (l.zip r).all (fun x => p x.1 x.2) = allN l.length (fun i => p (l.getD i d) (r.getD i e)) := by
  rw [all_N (l.zip r) (d, e), List.length_zip, h, Nat.min_self]
  refine allN_congr fun i hi => ?_
  rw [List.getD_eq_getElem?_getD, List.getD_eq_getElem?_getD, List.getD_eq_getElem?_getD, List.getElem?_eq_getElem (by rw [List.length_zip]; omega), List.getElem?_eq_getElem hi, List.getElem?_eq_getElem (by omega), List.getElem_zip]
  rfl
theorem beq0 (n : Nat) : (n == 0) = !decide (1 ≤ n) := by cases n <;> simp
theorem beq0i (n : Nat) : ((n : Int) == 0) = (n == 0) := by cases n <;> simp; omega
theorem dgt (n k : Nat) : decide ((n : Int) > (k : Int)) = decide (k < n) := decide_eq_decide.2 (by omega)
instance : LawfulBEq ByteArray where
  rfl := fun {a} => by cases a with | mk a => exact beq_self_eq_true a
  eq_of_beq := fun {a b} h => by
    cases a with | mk a => cases b with | mk b => exact congrArg ByteArray.mk (eq_of_beq (α := Array UInt8) h)
theorem find_upd : ∀ (m : List (ByteArray × Int)) (b : ByteArray) (v : Int) (x : ByteArray), findM (updM m b v) x = if x = b then v else findM m x
  | [], b, v, x => by
    by_cases h : x = b
    · subst h; simp [updM, findM]
    · simp [updM, findM, h, show (x == b) = false from beq_eq_false_iff_ne.2 h]
  | (a, n) :: r, b, v, x => by
    unfold updM
    by_cases h : b = a
    · subst h
      rw [show (b == b) = true from beq_self_eq_true b, cond_true]
      by_cases hx : x = b
      · subst hx; simp [findM]
      · simp [findM, hx, show (x == b) = false from beq_eq_false_iff_ne.2 hx]
    · rw [show (b == a) = false from beq_eq_false_iff_ne.2 h, cond_false]
      by_cases hx : x = a
      · subst hx
        rw [if_neg (fun e => h e.symm)]
        simp [findM]
      · simp only [findM, show (x == a) = false from beq_eq_false_iff_ne.2 hx, cond_false]
        exact find_upd r b v x

/-! ### names and groups -/
def lowB (b : UInt8) : Bool := decide (97 ≤ b.toNat) && decide (b.toNat ≤ 122)
def nameB (s : ByteArray) : Bool := s.data.toList.all lowB && (decide (1 ≤ s.size) && decide (s.size ≤ 12))
def polB (p : Int) : Bool := p == 1 || p == 2
def goodPs : List ByteArray → List TGroup → Int
  | _, [] => 0
  | seen, g :: r => bif !(nameB g.name && polB g.policy) then 2 else bif seen.any (fun s => s == g.name) then 70 else goodPs (seen ++ [g.name]) r
/-- policy.Good. -/
def goodP (l : List TGroup) : Int := bif l.length == 0 then 2 else bif decide (4 < l.length) then 3 else goodPs [] l
theorem size_data (s : ByteArray) : s.data.toList.length = s.size := by show s.data.toList.length = s.data.size; exact Array.length_toList
theorem get_data (s : ByteArray) (i : Nat) (h : i < s.size) : s.data.toList.getD i 0 = s[i]'h := by
  rw [List.getD_eq_getElem?_getD, List.getElem?_eq_getElem (by rw [size_data]; exact h)]
  rfl
theorem rune_low (s : ByteArray) (i : Nat) (h : i < s.size) : (decide (((Utf8.decode s i).1 : Int) < 97) || decide (((Utf8.decode s i).1 : Int) > 122)) = !lowB (s.data.toList.getD i 0) ∧ (lowB (s.data.toList.getD i 0) = true → (Utf8.decode s i).2 = 1) := by
  rw [get_data s i h]
  by_cases hb : (s[i]'h).toNat < 128
  · rw [decode_ascii s i h hb]
    refine ⟨?_, fun _ => rfl⟩
    unfold lowB
    rw [Bool.not_and, ← decide_not, ← decide_not]
    congr 1 <;> exact decide_eq_decide.2 (by omega)
  · have h2 := (decode_high s i h (by omega)).1
    have hl : lowB (s[i]'h) = false := by unfold lowB; rw [decide_eq_false (p := (s[i]'h).toNat ≤ 122) (by omega), Bool.and_false]
    rw [hl]
    refine ⟨?_, fun h => by cases h⟩
    rw [decide_eq_true (p := ((Utf8.decode s i).1 : Int) > 122) (by omega), Bool.or_true]
    rfl
theorem len_beq {a b : List UInt8} : (a == b) = decide (a = b) := by
  by_cases h : a = b
  · rw [h]; simp
  · rw [decide_eq_false h]; simpa using h
theorem goodPs_0 : ∀ (l : List TGroup) (seen : List ByteArray), goodPs seen l = 0 ∨ goodPs seen l = 2 ∨ goodPs seen l = 70
  | [], _ => .inl rfl
  | g :: r, seen => by
    unfold goodPs
    cases !(nameB g.name && polB g.policy) with
    | true => exact .inr (.inl rfl)
    | false =>
      cases seen.any (fun s => s == g.name) with
      | true => exact .inr (.inr rfl)
      | false => exact goodPs_0 r _
theorem goodP_0 {l : List TGroup} (h : goodP l = 0) : 1 ≤ l.length ∧ l.length ≤ 4 := by
  unfold goodP at h
  cases h1 : l.length == 0 with
  | true => rw [h1] at h; cases h
  | false =>
    rw [h1] at h
    cases h2 : decide (4 < l.length) with
    | true => rw [h2] at h; cases h
    | false =>
      have := of_decide_eq_false h2
      have h3 : l.length ≠ 0 := by simpa using h1
      omega
/-- Step by step. -/
theorem goodPs_at (l : List TGroup) (k : Nat) (seen : List ByteArray) : (∀ j, j < k → j < l.length → (nameB (l.getD j (dflt TC.group)).name && polB (l.getD j (dflt TC.group)).policy) = true ∧ (seen ++ (l.take j).map (·.name)).any (fun s => s == (l.getD j (dflt TC.group)).name) = false) →
    goodPs seen l = goodPs (seen ++ (l.take k).map (·.name)) (l.drop k) := by
  induction l generalizing k seen with
  | nil => intro _; simp [goodPs]
  | cons g r ih =>
    intro h
    cases k with
    | zero => simp
    | succ k =>
      obtain ⟨h1, h2⟩ := h 0 (Nat.succ_pos _) (Nat.succ_pos _)
      have h1' : (nameB g.name && polB g.policy) = true := h1
      have h2' : seen.any (fun s => s == g.name) = false := by simpa using h2
      rw [goodPs, h1', h2', Bool.not_true, cond_false, cond_false]
      rw [ih k (seen ++ [g.name]) (fun j hj hl => by
        have := h (j + 1) (by omega) (by simpa using hl)
        simpa [List.append_assoc] using this)]
      simp [List.append_assoc]
/-- How often names have come. -/
def mapAt (l : List TGroup) : Nat → List (ByteArray × Int)
  | 0 => []
  | i + 1 => updM (mapAt l i) (l.getD i (dflt TC.group)).1 (IntKind.i64.wrap (findM (mapAt l i) (l.getD i (dflt TC.group)).1 + 1))
def stopG (l : List TGroup) (i : Nat) : Bool := !(nameB (l.getD i (dflt TC.group)).1 && polB (l.getD i (dflt TC.group)).2) || ((l.take i).map (·.name)).any (fun s => s == (l.getD i (dflt TC.group)).1)
theorem take_names (l : List TGroup) (i : Nat) (h : i < l.length) : (l.take (i + 1)).map (·.name) = (l.take i).map (·.name) ++ [(l.getD i (dflt TC.group)).1] := by
  rw [List.take_add_one, List.getD_eq_getElem?_getD, List.getElem?_eq_getElem h, List.map_append]
  rfl
theorem find_mapAt (l : List TGroup) : ∀ (i : Nat), i ≤ l.length → (∀ j, j < i → stopG l j = false) → ∀ x, findM (mapAt l i) x = bif ((l.take i).map (·.name)).any (fun s => s == x) then 1 else 0
  | 0, _, _, x => by simp [mapAt, findM]
  | i + 1, hi, hs, x => by
    have ih := find_mapAt l i (by omega) (fun j hj => hs j (by omega))
    have h := hs i (Nat.lt_succ_self i)
    unfold stopG at h
    have h2 := (Bool.or_eq_false_iff.1 h).2
    unfold mapAt
    rw [find_upd, ih, h2, take_names l i (by omega), List.any_append, ih]
    by_cases hx : x = (l.getD i (dflt TC.group)).1
    · subst hx
      rw [if_pos rfl]
      simp
      decide
    · rw [if_neg hx]
      have : ([(l.getD i (dflt TC.group)).1].any fun s => s == x) = false := by
        simp only [List.any_cons, List.any_nil, Bool.or_false]
        exact beq_eq_false_iff_ne.2 fun e => hx e.symm
      rw [this, Bool.or_false]
end Go.Proofs.Yteebobbhhgmeiaa
