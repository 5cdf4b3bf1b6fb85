/- A region that draws its order, whatever order it is: an invariant that every operation hands on holds at its end. -/
import Derived.Test.YteebobbhhgmeiaaBase
import Derived.StillTail
namespace Go.Proofs.Yteebobbhhgmeiaa
open Go.RowKit

section anyorder
variable {P : Program} {ops : Array Oper} {Q : Exit → Act → World → Prop}

def unl (listed : Array Bool) : Nat := listed.toList.count false

theorem in_of_unlisted {listed : Array Bool} {i : Nat} (h : listed.getD i true = false) : i < listed.size := by
  rcases Nat.lt_or_ge i listed.size with h' | h'
  · exact h'
  · simp [Array.getElem?_eq_none h'] at h

theorem unl_set {listed : Array Bool} {i : Nat} (h : listed.getD i true = false) : unl (listed.setIfInBounds i true) + 1 = unl listed := by
  have hi := in_of_unlisted h
  have hv : listed[i] = false := by simpa [hi] using h
  have hl : i < listed.toList.length := by simpa using hi
  have hv' : listed.toList[i] = false := by simpa using hv
  have hp : 0 < listed.toList.count false := List.count_pos_iff.2 (by rw [← hv']; exact List.getElem_mem hl)
  unfold unl
  rw [Array.toList_setIfInBounds, List.count_set hl]
  simp only [hv', beq_self_eq_true, ↓reduceIte]
  have : (true == false) = false := rfl
  simp only [this, Bool.false_eq_true, ↓reduceIte]
  omega

theorem wpAny_inv {Inv : Array Bool → Act → World → Prop}
    (hs : ∀ listed a w i, listed.size = ops.size → Inv listed a w → i ∈ Region.ready .any ops listed → wpOp P ops Q i (Inv (listed.setIfInBounds i true)) a w)
    (hf : ∀ listed a w, listed.size = ops.size → Inv listed a w → Region.ready .any ops listed = [] → Q .normal a w) :
    ∀ (fuel : Nat) (listed : Array Bool) (a : Act) (w : World), listed.size = ops.size → unl listed ≤ fuel → Inv listed a w → wpAny P .any ops Q fuel listed a w
  | 0, listed, a, w, hz, hu, hi => by
    have hr : Region.ready .any ops listed = [] := by
      rw [List.eq_nil_iff_forall_not_mem]
      intro i hr
      have := unl_set (mem_ready.1 hr).1
      omega
    exact ⟨hr, hf _ _ _ hz hi hr⟩
  | fuel + 1, listed, a, w, hz, hu, hi => by
    refine ⟨fun h0 => hf _ _ _ hz hi h0, fun i hr => ?_⟩
    have hn := unl_set (mem_ready.1 hr).1
    exact wpOp_mono (fun a' w' h' => wpAny_inv hs hf fuel _ a' w' (by simp [hz]) (by omega) h') (hs _ _ _ _ hz hi hr)

theorem unl_replicate (n : Nat) : unl (Array.replicate n false) ≤ n := by
  unfold unl
  simp

theorem wp_region_inv {id : Nat} {a : Act} {w : World} {Inv : Array Bool → Act → World → Prop} (hm : P.follows .mixedOrders = true)
    (h0 : Inv (Array.replicate ops.size false) a { w with drawn := w.drawn + 1 })
    (hs : ∀ listed a w i, listed.size = ops.size → Inv listed a w → i ∈ Region.ready .any ops listed → wpOp P ops Q i (Inv (listed.setIfInBounds i true)) a w)
    (hf : ∀ listed a w, listed.size = ops.size → Inv listed a w → Region.ready .any ops listed = [] → Q .normal a w) : (Code.region id ops true).wp P Q a w :=
  wp_region_any hm (wpAny_inv hs hf _ _ _ _ (by simp) (unl_replicate _) h0)

/-- All edges lead back. -/
def backB (ops : Array Oper) : Bool := (List.range ops.size).all fun i => ((ops[i]?).map fun o => o.after.all fun e => !Region.binds .any e || decide (e.on < i)).getD true

theorem backB_spec (h : backB ops = true) {i : Nat} {o : Oper} (ho : ops[i]? = some o) {e : Edge} (he : e ∈ o.after) (hb : Region.binds .any e = true) : e.on < i := by
  have hi : i < ops.size := (Array.getElem?_eq_some_iff.1 ho).1
  have h1 := List.all_eq_true.1 h i (List.mem_range.2 hi)
  simp only [ho, Option.map_some, Option.getD_some] at h1
  have h2 := Array.all_eq_true_iff_forall_mem.1 h1 e he
  simpa [hb] using h2

/-- Nothing may come up any more: all have. -/
theorem all_listed (hb : backB ops = true) {listed : Array Bool} (hz : listed.size = ops.size) (hr : Region.ready .any ops listed = []) : ∀ i, i < ops.size → listed.getD i false = true := by
  intro i
  induction i using Nat.strongRecOn with
  | _ i ih =>
    intro hi
    cases hl : listed.getD i false with
    | true => rfl
    | false =>
      exfalso
      obtain ⟨o, ho⟩ : ∃ o, ops[i]? = some o := ⟨_, Array.getElem?_eq_getElem hi⟩
      have hmem : i ∈ Region.ready .any ops listed := mem_ready.2 ⟨getD_in (by omega) hl, o, ho, fun e he hb' => by
        have hlt := backB_spec hb ho he hb'
        exact ih _ hlt (by omega)⟩
      rw [hr] at hmem
      cases hmem
end anyorder

/-! ### what a lexical walk over the quiet operations says -/
structure Al where
  j : Nat
  s : Nat
  o0 : Obj
  o1 : Obj

def skp (al : List Al) (k : Nat) : Bool := al.any fun e => e.j == k || e.s == k

section walk
variable (P : Program) (ops : Array Oper) (C : World → Prop) (sk : Nat → Bool)
/-- The lexical walk, the operations of 'sk' passed over. -/
def wpSkip (Q : Act → Prop) : Nat → List Oper → Act → Prop
  | _, [], a => Q a
  | k, o :: rest, a =>
    if sk k then wpSkip Q (k + 1) rest a
    else if Region.wanted o (yielded ops a.tmps) then o.quiet P a C (wpSkip Q (k + 1) rest)
    else wpSkip Q (k + 1) rest (a.put o.dst undef)

variable {P ops C sk}
theorem ps_nil {Q : Act → Prop} {k : Nat} {a : Act} (h : Q a) : wpSkip P ops C sk Q k [] a := h
theorem ps_skip {Q : Act → Prop} {k : Nat} {o : Oper} {rest : List Oper} {a : Act} (hs : sk k = true) (h : wpSkip P ops C sk Q (k + 1) rest a) : wpSkip P ops C sk Q k (o :: rest) a := by
  unfold wpSkip; rw [if_pos hs]; exact h
theorem ps_no {Q : Act → Prop} {k : Nat} {o : Oper} {rest : List Oper} {a : Act} (hs : sk k = false) (hw : Region.wanted o (yielded ops a.tmps) = false) (h : wpSkip P ops C sk Q (k + 1) rest (a.put o.dst undef)) :
    wpSkip P ops C sk Q k (o :: rest) a := by
  unfold wpSkip; rw [if_neg (by rw [hs]; exact Bool.false_ne_true), if_neg (by rw [hw]; exact Bool.false_ne_true)]; exact h
theorem ps_want {Q : Act → Prop} {k : Nat} {o : Oper} {rest : List Oper} {a : Act} (hs : sk k = false) (hw : Region.wanted o (yielded ops a.tmps) = true)
    (h : ∀ K : Act → Prop, (∀ a, wpSkip P ops C sk Q (k + 1) rest a → K a) → o.quiet P a C K) : wpSkip P ops C sk Q k (o :: rest) a := by
  unfold wpSkip; rw [if_neg (by rw [hs]; exact Bool.false_ne_true), if_pos hw]; exact h _ fun _ h => h

theorem put_getD (a : Act) (d t : Nat) (v : Value) : (a.put (some d) v).tmps.getD t undef = if d = t ∧ d < a.tmps.size then v else a.tmps.getD t undef := by
  simp only [Act.put, Array.getD_eq_getD_getElem?, Array.getElem?_setIfInBounds]
  by_cases h : d = t
  · subst h
    by_cases h2 : d < a.tmps.size
    · simp [h2]
    · simp [h2]
  · simp [h]
theorem put_size (a : Act) (d : Option Tmp) (v : Value) : (a.put d v).tmps.size = a.tmps.size := by cases d <;> simp [Act.put]
theorem put_defers' (a : Act) (d : Option Tmp) (v : Value) : (a.put d v).defers = a.defers := by cases d <;> rfl

def valF (aF : Act) (o : Oper) : Value := match o.dst with | some d => aF.tmps.getD d undef | none => undef

/-- What an operation that is not passed over leaves. -/
theorem skip_step {Q : Act → Prop} {k : Nat} {o : Oper} {rest : List Oper} {a : Act} (hs : sk k = false) (h : wpSkip P ops C sk Q k (o :: rest) a) :
    ∃ v, YieldsIn P ops C o v a ∧ wpSkip P ops C sk Q (k + 1) rest (a.put o.dst v) := by
  unfold wpSkip at h
  rw [if_neg (by rw [hs]; exact Bool.false_ne_true)] at h
  by_cases hw : Region.wanted o (yielded ops a.tmps) = true
  · rw [if_pos hw] at h
    obtain ⟨v, h1, h2⟩ := h
    exact ⟨v, .inl ⟨hw, h1⟩, h2⟩
  · rw [if_neg hw] at h
    exact ⟨undef, .inr ⟨by simpa using hw, rfl⟩, h⟩

/-- A slot that no operation writes ends as it was. -/
theorem skip_keeps {aF : Act} : ∀ (l : List Oper) (k : Nat) (a : Act), wpSkip P ops C sk (fun a' => a' = aF) k l a →
    aF.tmps.size = a.tmps.size ∧ aF.defers = a.defers ∧ ∀ d, (∀ (i : Nat) o, l[i]? = some o → sk (k + i) = false → o.dst ≠ some d) → aF.tmps.getD d undef = a.tmps.getD d undef
  | [], _, a, h => by
    have h' : a = aF := h
    subst h'
    exact ⟨rfl, rfl, fun _ _ => rfl⟩
  | o :: rest, k, a, h => by
    cases hs : sk k with
    | true =>
      unfold wpSkip at h
      rw [if_pos hs] at h
      obtain ⟨h1, h2, h3⟩ := skip_keeps rest (k + 1) a h
      refine ⟨h1, h2, fun d hd => h3 d fun i o' ho' hsk => hd (i + 1) o' (by simpa using ho') (by rw [show k + (i + 1) = k + 1 + i by omega]; exact hsk)⟩
    | false =>
      obtain ⟨v, _, h'⟩ := skip_step hs h
      obtain ⟨h1, h2, h3⟩ := skip_keeps rest (k + 1) _ h'
      refine ⟨by rw [h1, put_size], by rw [h2, put_defers'], fun d hd => ?_⟩
      rw [h3 d fun i o' ho' hsk => hd (i + 1) o' (by simpa using ho') (by rw [show k + (i + 1) = k + 1 + i by omega]; exact hsk)]
      have hne := hd 0 o (by simp) (by simpa using hs)
      cases hdst : o.dst with
      | none => rfl
      | some e =>
        rw [put_getD, if_neg]
        rintro ⟨rfl, _⟩
        exact hne hdst

def lexA (ops : Array Oper) (sk : Nat → Bool) (aF a0 : Act) : Nat → Act
  | 0 => a0
  | k + 1 => match ops[k]? with
    | some o => if sk k then lexA ops sk aF a0 k else (lexA ops sk aF a0 k).put o.dst (valF aF o)
    | none => lexA ops sk aF a0 k

theorem lexA_size (aF a0 : Act) : ∀ k, (lexA ops sk aF a0 k).tmps.size = a0.tmps.size
  | 0 => rfl
  | k + 1 => by
    unfold lexA
    split
    · split
      · exact lexA_size aF a0 k
      · rw [put_size]; exact lexA_size aF a0 k
    · exact lexA_size aF a0 k

theorem skip_vals {aF a0 : Act} : ∀ (l : List Oper) (k : Nat) (a : Act), (∀ i, i < l.length → l[i]? = ops[k + i]?) → a = lexA ops sk aF a0 k →
    (∀ i j o o' d, k ≤ i → i < j → j < k + l.length → ops[i]? = some o → ops[j]? = some o' → o.dst = some d → o'.dst ≠ some d) →
    wpSkip P ops C sk (fun a' => a' = aF) k l a →
    lexA ops sk aF a0 (k + l.length) = aF ∧ ∀ i o, k ≤ i → i < k + l.length → sk i = false → ops[i]? = some o →
      ∃ v, YieldsIn P ops C o v (lexA ops sk aF a0 i) ∧ ∀ a' : Act, a'.tmps.size = a0.tmps.size → a'.put o.dst v = a'.put o.dst (valF aF o)
  | [], k, a, _, ha, _, h => by
    have h' : a = aF := h
    refine ⟨by rw [List.length_nil, Nat.add_zero, ← ha]; exact h', fun i o h1 h2 => ?_⟩
    simp only [List.length_nil] at h2
    omega
  | o :: rest, k, a, hl, ha, hd, h => by
    have ho : ops[k]? = some o := by simpa using (hl 0 (by simp)).symm
    have hl' : ∀ i, i < rest.length → rest[i]? = ops[k + 1 + i]? := fun i hi => by
      have := hl (i + 1) (by simp; omega)
      rw [show k + (i + 1) = k + 1 + i by omega] at this
      simpa using this
    have hd' : ∀ i j p q d, k + 1 ≤ i → i < j → j < k + 1 + rest.length → ops[i]? = some p → ops[j]? = some q → p.dst = some d → q.dst ≠ some d :=
      fun i j p q d h1 h2 h3 => hd i j p q d (by omega) h2 (by simp only [List.length_cons]; omega)
    cases hs : sk k with
    | true =>
      unfold wpSkip at h
      rw [if_pos hs] at h
      have ha' : a = lexA ops sk aF a0 (k + 1) := by
        rw [ha]
        conv => rhs; unfold lexA
        simp only [ho, hs, ↓reduceIte]
      obtain ⟨h1, h2⟩ := skip_vals rest (k + 1) a hl' ha' hd' h
      refine ⟨by rw [List.length_cons, show k + (rest.length + 1) = k + 1 + rest.length by omega]; exact h1, fun i p hi1 hi2 hsk hp => ?_⟩
      by_cases hik : i = k
      · subst hik; rw [hs] at hsk; cases hsk
      · exact h2 i p (by omega) (by simp only [List.length_cons] at hi2; omega) hsk hp
    | false =>
      obtain ⟨v, hy, h'⟩ := skip_step hs h
      have hsz : a.tmps.size = a0.tmps.size := by rw [ha]; exact lexA_size aF a0 k
      have hv : ∀ a' : Act, a'.tmps.size = a0.tmps.size → a'.put o.dst v = a'.put o.dst (valF aF o) := fun a' ha' => by
        cases hdst : o.dst with
        | none => rfl
        | some d =>
          simp only [valF, hdst]
          by_cases hlt : d < a0.tmps.size
          · obtain ⟨_, _, hk⟩ := skip_keeps rest (k + 1) _ h'
            have := hk d fun i o' ho' _ => by
              have hir : i < rest.length := (List.getElem?_eq_some_iff.1 ho').1
              rw [hl' i hir] at ho'
              exact hd k (k + 1 + i) o o' d (Nat.le_refl _) (by omega) (by simp only [List.length_cons]; omega) ho ho' hdst
            rw [hdst, put_getD, if_pos ⟨rfl, by rw [hsz]; exact hlt⟩] at this
            rw [this]
          · simp only [Act.put]
            rw [Array.setIfInBounds_eq_of_size_le (by rw [ha']; exact Nat.le_of_not_lt hlt), Array.setIfInBounds_eq_of_size_le (by rw [ha']; exact Nat.le_of_not_lt hlt)]
      have ha' : a.put o.dst v = lexA ops sk aF a0 (k + 1) := by
        rw [hv a hsz, ha]
        conv => rhs; unfold lexA
        simp only [ho, hs, Bool.false_eq_true, ↓reduceIte]
      obtain ⟨h1, h2⟩ := skip_vals rest (k + 1) _ hl' ha' hd' h'
      refine ⟨by rw [List.length_cons, show k + (rest.length + 1) = k + 1 + rest.length by omega]; exact h1, fun i p hi1 hi2 hsk hp => ?_⟩
      by_cases hik : i = k
      · subst hik
        have : p = o := Option.some.inj (hp.symm.trans ho)
        subst this
        exact ⟨v, ha ▸ hy, hv⟩
      · exact h2 i p (by omega) (by simp only [List.length_cons] at hi2; omega) hsk hp

theorem lexA_get {aF a0 : Act} {t : Nat} : ∀ k, (∀ i j o o' d, i < j → j < k → ops[i]? = some o → ops[j]? = some o' → o.dst = some d → o'.dst ≠ some d) →
    (∀ i o, i < k → sk i = false → ops[i]? = some o → o.dst = some t → t < a0.tmps.size → (lexA ops sk aF a0 k).tmps.getD t undef = aF.tmps.getD t undef) ∧
    ((∀ i o, i < k → sk i = false → ops[i]? = some o → o.dst ≠ some t) → (lexA ops sk aF a0 k).tmps.getD t undef = a0.tmps.getD t undef)
  | 0, _ => ⟨fun i o h => by omega, fun _ => rfl⟩
  | k + 1, hd => by
    obtain ⟨h1, h2⟩ := lexA_get (aF := aF) (a0 := a0) (t := t) k fun i j o o' d hij hj => hd i j o o' d hij (by omega)
    have hu : lexA ops sk aF a0 (k + 1) = match ops[k]? with
      | some o => if sk k then lexA ops sk aF a0 k else (lexA ops sk aF a0 k).put o.dst (valF aF o)
      | none => lexA ops sk aF a0 k := by conv => lhs; unfold lexA
    constructor
    · intro i o hi hsk ho hdst ht
      by_cases hik : i = k
      · subst hik
        rw [hu]
        simp only [ho, hsk, Bool.false_eq_true, ↓reduceIte, hdst, valF]
        rw [put_getD, if_pos ⟨rfl, by rw [lexA_size]; exact ht⟩]
      · have h3 := h1 i o (by omega) hsk ho hdst ht
        rw [hu]
        split
        · rename_i p hp
          split
          · exact h3
          · have hne := hd i k o p t (by omega) (by omega) ho hp hdst
            cases hpd : p.dst with
            | none => exact h3
            | some e =>
              rw [put_getD, if_neg]
              · exact h3
              · rintro ⟨rfl, _⟩; exact hne hpd
        · exact h3
    · intro hno
      have h3 := h2 fun i o hi => hno i o (by omega)
      rw [hu]
      split
      · rename_i p hp
        split
        · exact h3
        · rename_i hskk
          have hne := hno k p (by omega) (by simpa using hskk) hp
          cases hpd : p.dst with
          | none => exact h3
          | some e =>
            rw [put_getD, if_neg]
            · exact h3
            · rintro ⟨rfl, _⟩; exact hne hpd
      · exact h3
end walk
end Go.Proofs.Yteebobbhhgmeiaa
