/- A symbolic run over typed data, part K: two states put together. -/
import Derived.Test.YteebobbhhgmeiaaTJ0
namespace Go.Proofs.Yteebobbhhgmeiaa
open Go.RowKit

/-! ### guards -/
def gset (s : St) : Nat → Nat → Bool → Guards
  | 0, u, b => [(u, b)]
  | n + 1, u, b => (u, b) :: match s.get u with
    | some (.opt v c _) => gset s n v c
    | _ => []
def gprops (s : St) (G : Guards) : Guards → List Prop
  | [] => []
  | (u, b) :: r => match s.get u with
    | some x => match x.strip G with
      | some (.v (.bool g)) => (g = b) :: gprops s G r
      | _ => gprops s G r
    | none => gprops s G r
def gimp : List Prop → Prop → Prop
  | [], p => p
  | q :: r, p => q → gimp r p
def gimps (qs : List Prop) : List Prop → List Prop
  | [] => []
  | p :: r => gimp qs p :: gimps qs r
theorem gimp_ok : ∀ {qs : List Prop} {p : Prop}, gimp qs p → (∀ q ∈ qs, q) → p
  | [], _, h, _ => h
  | q :: r, _, h, hq => gimp_ok (h (hq q (by simp))) fun q' h' => hq q' (by simp [h'])
theorem gimps_ok {qs : List Prop} : ∀ {ps : List Prop}, (∀ p ∈ gimps qs ps, p) → (∀ q ∈ qs, q) → ∀ p ∈ ps, p
  | [], _, _, _, h => by cases h
  | p :: r, hp, hq, p', hm => by
    rcases List.mem_cons.1 hm with rfl | hm
    · exact gimp_ok (hp _ (List.mem_cons_self ..)) hq
    · exact gimps_ok (ps := r) (fun p h => hp p (List.mem_cons_of_mem _ h)) hq p' hm
section
variable {Z : Base} {F : Nat → Prop} {N : Nm} {s : St} {a : Act} {R : World}
theorem inG_cons {u v : Nat} {b c : Bool} {G : Guards} (h : inG u b ((v, c) :: G) = true) : (u = v ∧ b = c) ∨ inG u b G = true := by
  unfold inG at h
  cases hk : Nat.beq v u with
  | false => rw [hk] at h; exact .inr h
  | true =>
    rw [hk] at h
    simp only [cond_true] at h
    cases hb : beqB c b with
    | false => rw [hb] at h; exact .inr h
    | true => exact .inl ⟨(Nat.eq_of_beq_eq_true hk).symm, (beqB_eq hb).symm⟩
theorem opt_true (h : Rel Z F N s a R) {u v : Nat} {b c : Bool} {x : A} (hg : s.get u = some (.opt v c x)) (hu : tmOf a u = .bool b) : tmOf a v = .bool c := by
  have hh := h.slots u _ hg
  simp only [HS] at hh
  by_cases hc : tmOf a v = .bool c
  · exact hc
  · have := hh.2 hc
    rw [hu] at this
    cases this
theorem gset_ok (h : Rel Z F N s a R) : ∀ (n u : Nat) (b : Bool), tmOf a u = .bool b → GOk (tmOf a) (gset s n u b)
  | 0, u, b, hu, v, c, hv => by
    rcases inG_cons hv with ⟨rfl, rfl⟩ | h'
    · exact hu
    · cases h'
  | n + 1, u, b, hu, v, c, hv => by
    unfold gset at hv
    rcases inG_cons hv with ⟨rfl, rfl⟩ | h'
    · exact hu
    · split at h'
      · rename_i v' c' x hg
        exact gset_ok h n v' c' (opt_true h hg hu) v c h'
      · cases h'
theorem gprops_ok (h : Rel Z F N s a R) {G : Guards} (hG : GOk (tmOf a) G) : ∀ {l : Guards}, (∀ e ∈ l, tmOf a e.1 = .bool e.2) → ∀ q ∈ gprops s G l, q
  | [], _, _, hq => by cases hq
  | (u, b) :: r, hl, q, hq => by
    have hr : ∀ e ∈ r, tmOf a e.1 = .bool e.2 := fun e he => hl e (List.mem_cons_of_mem _ he)
    unfold gprops at hq
    split at hq
    · rename_i x hx
      split at hq
      · rename_i g hg
        rcases List.mem_cons.1 hq with rfl | hq
        · obtain ⟨_, h2⟩ := strip_ok hG hg (h.slots u x hx)
          have h3 := hl (u, b) (List.mem_cons_self ..)
          rw [h2.v_inv] at h3
          injection h3
        · exact gprops_ok h hG hr q hq
      · exact gprops_ok h hG hr q hq
    · exact gprops_ok h hG hr q hq
theorem gset_mem (h : Rel Z F N s a R) : ∀ (n u : Nat) (b : Bool), tmOf a u = .bool b → ∀ e ∈ gset s n u b, tmOf a e.1 = .bool e.2
  | 0, u, b, hu, e, he => by
    obtain rfl := List.mem_singleton.1 he
    exact hu
  | n + 1, u, b, hu, e, he => by
    unfold gset at he
    rcases List.mem_cons.1 he with rfl | he
    · exact hu
    · split at he
      · rename_i v' c' x hg
        exact gset_mem h n v' c' (opt_true h hg hu) e he
      · cases he
end

/-! ### rows that go on under one number -/
/-- A row of the one (none: nil) and one of the other: the number under which they go on. -/
structure Mv where
  l : Option Nat
  r : Option Nat
  m : Nat
abbrev Mvs := List Mv
def isO (i : Nat) : Option Nat → Bool
  | some j => Nat.beq j i
  | none => false
theorem isO_ok {i : Nat} {o : Option Nat} (h : isO i o = true) : o = some i := by
  cases o with
  | none => cases h
  | some j => rw [Nat.eq_of_beq_eq_true h]
def usedL (i : Nat) : Mvs → Bool
  | [] => false
  | e :: r => bif isO i e.l then true else usedL i r
def usedR (i : Nat) : Mvs → Bool
  | [] => false
  | e :: r => bif isO i e.r then true else usedR i r
def isNone : Option Nat → Bool
  | none => true
  | _ => false
def findP (i j : Nat) : Mvs → Option Nat
  | [] => none
  | e :: r => bif isO i e.l && isO j e.r then some e.m else findP i j r
def findR (j : Nat) : Mvs → Option Nat
  | [] => none
  | e :: r => bif isNone e.l && isO j e.r then some e.m else findR j r
def findL (i : Nat) : Mvs → Option Nat
  | [] => none
  | e :: r => bif isO i e.l && isNone e.r then some e.m else findL i r
def isRow (o : Objs) (i : Nat) : Bool := match lookO i o with
  | some (.arr _ _ _) => true
  | _ => false
abbrev Coll := Mvs × Nat
def addP (o1 o2 : Objs) (i j : Nat) (c : Coll) : Coll := bif Nat.beq i j then c else
  bif usedL i c.1 || usedR j c.1 then c else bif isRow o1 i && isRow o2 j then (⟨some i, some j, c.2⟩ :: c.1, c.2 + 1) else c
def addR (o2 : Objs) (j : Nat) (c : Coll) : Coll := bif usedR j c.1 then c else bif isRow o2 j then (⟨none, some j, c.2⟩ :: c.1, c.2 + 1) else c
def addL (o1 : Objs) (i : Nat) (c : Coll) : Coll := bif usedL i c.1 then c else bif isRow o1 i then (⟨some i, none, c.2⟩ :: c.1, c.2 + 1) else c
def collLs (f : A → A → Coll → Coll) : List A → List A → Coll → Coll
  | x :: xs, y :: ys, c => collLs f xs ys (f x y c)
  | _, _, c => c
def collA (o1 o2 : Objs) : Nat → A → A → Coll → Coll
  | 0, _, _, c => c
  | d + 1, x, y, c => match x, y with
    | .sq i, .sq j => addP o1 o2 i j c
    | .v x, .sq j => bif isNilV x then addR o2 j c else c
    | .sq i, .v y => bif isNilV y then addL o1 i c else c
    | .agg xs, .agg ys => collLs (collA o1 o2 d) xs ys c
    | .tup xs, .tup ys => collLs (collA o1 o2 d) xs ys c
    | .fn _ xs us, .fn _ ys ws => collLs (collA o1 o2 d) us ws (collLs (collA o1 o2 d) xs ys c)
    | .v (.agg xs), .agg ys => collLs (collA o1 o2 d) (toL xs.toList) ys c
    | .agg xs, .v (.agg ys) => collLs (collA o1 o2 d) xs (toL ys.toList) c
    | .v (.tuple xs), .tup ys => collLs (collA o1 o2 d) (toL xs.toList) ys c
    | .tup xs, .v (.tuple ys) => collLs (collA o1 o2 d) xs (toL ys.toList) c
    | _, _ => c

/-! ### values -/
def mergeX (M : Mvs) : Nat → Bool → A → A → A
  | 0, _, _, _ => .dead
  | d + 1, g, x, y => match (bif isMix x y then spread x else x), (bif isMix x y then spread y else y) with
    | .sq i, .sq j => bif Nat.beq i j then .sq i else match findP i j M with
      | some m => .sq m
      | none => .dead
    | .v x, .sq j => bif isNilV x then (match findR j M with
      | some m => .sq m
      | none => .dead) else .dead
    | .sq i, .v y => bif isNilV y then (match findL i M with
      | some m => .sq m
      | none => .dead) else .dead
    | .agg xs, .agg ys => aggA (mergeLs (mergeX M d g) g xs ys)
    | .tup xs, .tup ys => .tup (mergeLs (mergeX M d g) g xs ys)
    | .fn f xs us, .fn h ys ws => bif Nat.beq f h then .fn f (mergeLs (mergeX M d g) g xs ys) (mergeLs (mergeX M d g) g us ws) else .dead
    | .vw i sz lo n _, .vw j sz' lo' n' _ => bif Nat.beq i j then (bif Nat.beq sz sz' then .vw i sz (bif g then lo else lo') (bif g then n else n') false else .dead) else .dead
    | .el i k sz off, .el j k' sz' off' => bif Nat.beq i j then (bif Nat.beq sz sz' then (bif Nat.beq off off' then .el i (bif g then k else k') sz off else .dead) else .dead) else .dead
    | x, y => mergeA 4 g x y
def mergeM (M : Mvs) (g : Bool) (x y : A) : A := mergeX M 5 g x y

/-- What the numbers stand for, at one side. -/
def MvOk (N : Nm) (nx : Nat) (sel : Mv → Option Nat) (M : Mvs) : Prop := ∀ e ∈ M, e.m < nx ∧ (∀ i, sel e = some i → i < nx ∧ N.q e.m = N.q i) ∧ (sel e = none → N.q e.m = .slice none 0 0)
def side (g : Bool) : Mv → Option Nat := bif g then Mv.l else Mv.r
section
variable {F : Nat → Prop} {N : Nm} {nx : Nat} {R : World} {g : Bool} {M : Mvs}
theorem findP_mem {i j m : Nat} : ∀ {M : Mvs}, findP i j M = some m → ∃ e ∈ M, e.l = some i ∧ e.r = some j ∧ e.m = m
  | [], h => by cases h
  | e :: r, h => by
    unfold findP at h
    cases hb : (isO i e.l && isO j e.r) with
    | true =>
      rw [hb] at h
      cases h
      rw [Bool.and_eq_true] at hb
      exact ⟨e, List.mem_cons_self .., isO_ok hb.1, isO_ok hb.2, rfl⟩
    | false =>
      rw [hb] at h
      obtain ⟨e', h1, h2⟩ := findP_mem (M := r) h
      exact ⟨e', List.mem_cons_of_mem _ h1, h2⟩
theorem isNone_ok {o : Option Nat} (h : isNone o = true) : o = none := by cases o <;> first | rfl | cases h
theorem findR_mem {j m : Nat} : ∀ {M : Mvs}, findR j M = some m → ∃ e ∈ M, e.l = none ∧ e.r = some j ∧ e.m = m
  | [], h => by cases h
  | e :: r, h => by
    unfold findR at h
    cases hb : (isNone e.l && isO j e.r) with
    | true =>
      rw [hb] at h
      cases h
      rw [Bool.and_eq_true] at hb
      exact ⟨e, List.mem_cons_self .., isNone_ok hb.1, isO_ok hb.2, rfl⟩
    | false =>
      rw [hb] at h
      obtain ⟨e', h1, h2⟩ := findR_mem (M := r) h
      exact ⟨e', List.mem_cons_of_mem _ h1, h2⟩
theorem findL_mem {i m : Nat} : ∀ {M : Mvs}, findL i M = some m → ∃ e ∈ M, e.l = some i ∧ e.r = none ∧ e.m = m
  | [], h => by cases h
  | e :: r, h => by
    unfold findL at h
    cases hb : (isO i e.l && isNone e.r) with
    | true =>
      rw [hb] at h
      cases h
      rw [Bool.and_eq_true] at hb
      exact ⟨e, List.mem_cons_self .., isO_ok hb.1, isNone_ok hb.2, rfl⟩
    | false =>
      rw [hb] at h
      obtain ⟨e', h1, h2⟩ := findL_mem (M := r) h
      exact ⟨e', List.mem_cons_of_mem _ h1, h2⟩
theorem Hv.sq_as {i m : Nat} {v : Value} (h : Hv F N nx R (.sq i) v) (hm : m < nx) (e : N.q m = N.q i) : Hv F N nx R (.sq m) v := by
  rw [h.sq_inv.2, ← e]
  exact .sq hm
theorem mergeX_ok (hM : MvOk N nx (side g) M) : ∀ (d : Nat) {x y : A} {v : Value}, Hv F N nx R (bif g then x else y) v → Hv F N nx R (mergeX M d g x y) v
  | 0, _, _, _, _ => .dead _
  | d + 1, x, y, v, h => by
    have ih : ∀ {x y v}, Hv F N nx R (bif g then x else y) v → Hv F N nx R (mergeX M d g x y) v := fun h => mergeX_ok hM d h
    have h' : Hv F N nx R (bif g then (bif isMix x y then spread x else x) else (bif isMix x y then spread y else y)) v := by
      cases isMix x y with
      | false => exact h
      | true => cases g <;> exact spread_ok h
    unfold mergeX
    generalize (bif isMix x y then spread x else x) = x' at *
    generalize (bif isMix x y then spread y else y) = y' at *
    clear h
    have h := h'
    clear h'
    split
    · rename_i i j
      cases h1 : Nat.beq i j with
      | true =>
        obtain rfl := Nat.eq_of_beq_eq_true h1
        cases g <;> exact h
      | false =>
        simp only [cond_false]
        split
        · rename_i m hm
          obtain ⟨e, h2, h3, h4, rfl⟩ := findP_mem hm
          obtain ⟨k1, k2, _⟩ := hM e h2
          cases g with
          | true => exact Hv.sq_as h k1 (k2 i h3).2
          | false => exact Hv.sq_as h k1 (k2 j h4).2
        · exact .dead _
    · rename_i x j
      cases hx : isNilV x with
      | false => exact .dead _
      | true =>
        obtain rfl := isNilV_ok hx
        simp only [cond_true]
        split
        · rename_i m hm
          obtain ⟨e, h2, h3, h4, rfl⟩ := findR_mem hm
          obtain ⟨k1, k2, k3⟩ := hM e h2
          cases g with
          | true => rw [h.v_inv, ← k3 h3]; exact .sq k1
          | false => exact Hv.sq_as h k1 (k2 j h4).2
        · exact .dead _
    · rename_i i y
      cases hx : isNilV y with
      | false => exact .dead _
      | true =>
        obtain rfl := isNilV_ok hx
        simp only [cond_true]
        split
        · rename_i m hm
          obtain ⟨e, h2, h3, h4, rfl⟩ := findL_mem hm
          obtain ⟨k1, k2, k3⟩ := hM e h2
          cases g with
          | true => exact Hv.sq_as h k1 (k2 i h3).2
          | false => rw [h.v_inv, ← k3 h4]; exact .sq k1
        · exact .dead _
    · rename_i xs ys
      have h' : Hv F N nx R (.agg (bif g then xs else ys)) v := by cases g <;> exact h
      obtain ⟨vs, rfl, h2⟩ := h'.agg_inv
      exact aggA_ok (mergeLs_ok ih h2)
    · rename_i xs ys
      have h' : Hv F N nx R (.tup (bif g then xs else ys)) v := by cases g <;> exact h
      obtain ⟨vs, rfl, h2⟩ := h'.tup_inv
      exact Hv.of_tup (mergeLs_ok ih h2)
    · rename_i f xs us h0 ys ws
      cases h1 : Nat.beq f h0 with
      | false => exact .dead _
      | true =>
        obtain rfl := Nat.eq_of_beq_eq_true h1
        have h' : Hv F N nx R (.fn f (bif g then xs else ys) (bif g then us else ws)) v := by cases g <;> exact h
        obtain ⟨vs, ks, rfl, h2, h3⟩ := h'.fn_inv
        exact Hv.of_fn (mergeLs_ok ih h2) (mergeLs_ok ih h3)
    · rename_i i sz lo n f j sz' lo' n' f'
      cases h1 : Nat.beq i j with
      | false => exact .dead _
      | true =>
        cases h2 : Nat.beq sz sz' with
        | false => exact .dead _
        | true =>
          obtain rfl := Nat.eq_of_beq_eq_true h1
          obtain rfl := Nat.eq_of_beq_eq_true h2
          cases g with
          | true =>
            obtain ⟨k1, a, c, rfl, k2, _, k4⟩ := h.vw_inv
            exact .vw k1 k2 (fun e => by cases e) k4
          | false =>
            obtain ⟨k1, a, c, rfl, k2, _, k4⟩ := h.vw_inv
            exact .vw k1 k2 (fun e => by cases e) k4
    · rename_i i k sz off j k' sz' off'
      cases h1 : Nat.beq i j with
      | false => exact .dead _
      | true =>
        cases h2 : Nat.beq sz sz' with
        | false => exact .dead _
        | true =>
          cases h3 : Nat.beq off off' with
          | false => exact .dead _
          | true =>
            obtain rfl := Nat.eq_of_beq_eq_true h1
            obtain rfl := Nat.eq_of_beq_eq_true h2
            obtain rfl := Nat.eq_of_beq_eq_true h3
            cases g <;> exact h
    · exact mergeA_ok 4 h
theorem mergeM_ok (hM : MvOk N nx (side g) M) {x y : A} {v : Value} (h : Hv F N nx R (bif g then x else y) v) : Hv F N nx R (mergeM M g x y) v := by
  exact mergeX_ok hM 5 h
end

/-! ### objects -/
def mergeEls (M : Mvs) (g : Bool) : Els → Els → Option Els
  | .ty c l, .ty c' l' => match TC.same c' c with
    | some h => some (.ty c (bif g then l else castL h.down l'))
    | none => none
  | .lst cs, .ty c l => match decs c cs with
    | some (l', []) => some (.ty c (bif g then l' else l))
    | _ => none
  | .ty c l, .lst cs => match decs c cs with
    | some (l', []) => some (.ty c (bif g then l else l'))
    | _ => none
  | .lst xs, .lst ys => bif Nat.beq xs.length ys.length then some (.lst ((xs.zip ys).map fun p => mergeLs (mergeM M g) g p.1 p.2)) else none
def mergeOb (M : Mvs) (g : Bool) : Ob → Ob → Option Ob
  | .box e cs, .box e' cs' => bif Nat.beq e e' then some (.box e (mergeLs (mergeM M g) g cs cs')) else none
  | .arr e sz els, .arr e' sz' els' => bif Nat.beq e e' then (bif Nat.beq sz sz' then (match mergeEls M g els els' with
    | some r => some (.arr e sz r)
    | none => none) else none) else none
  | .map k v l, .map k' v' l' => match TC.same k' k, TC.same v' v with
    | some h, some h' => some (.map k v (bif g then l else (h.down ▸ h'.down ▸ l' : List (U k × U v))))
    | _, _ => none
  | .sit b p, .sit b' p' => some (.sit (bif g then b else b') (bif g then p else p'))
  | _, _ => none
section
variable {F : Nat → Prop} {N : Nm} {nx : Nat} {R : World} {g : Bool} {M : Mvs} {size : Nat}
theorem mergeEls_ok (hM : MvOk N nx (side g) M) {x y r : Els} {zs : List Value} (he : mergeEls M g x y = some r) (h : RowHL F N nx R (bif g then x else y) size zs) : r.n = (bif g then x else y).n ∧ RowHL F N nx R r size zs := by
  unfold mergeEls at he
  split at he
  · rename_i c l c' l'
    split at he <;> first | (cases he; done) | skip
    rename_i h1 _
    obtain ⟨h1⟩ := h1
    subst h1
    cases he
    cases g <;> exact ⟨rfl, h⟩
  · rename_i cs c l
    split at he <;> first | (cases he; done) | skip
    rename_i l' hl
    cases he
    cases g with
    | false => exact ⟨rfl, h⟩
    | true => exact ⟨(decs_ok (F := F) (N := N) (nx := nx) (R := R) hl (fun p hp => by cases hp)).1, RowHL.ty (els := .lst cs) h hl (fun p hp => by cases hp)⟩
  · rename_i c l cs
    split at he <;> first | (cases he; done) | skip
    rename_i l' hl
    cases he
    cases g with
    | true => exact ⟨rfl, h⟩
    | false => exact ⟨(decs_ok (F := F) (N := N) (nx := nx) (R := R) hl (fun p hp => by cases hp)).1, RowHL.ty (els := .lst cs) h hl (fun p hp => by cases hp)⟩
  · rename_i xs ys
    cases hb : Nat.beq xs.length ys.length with
    | false => rw [hb] at he; cases he
    | true =>
      rw [hb] at he
      cases he
      have hlen := Nat.eq_of_beq_eq_true hb
      have hz : ((xs.zip ys).map fun p => mergeLs (mergeM M g) g p.1 p.2).length = xs.length := by rw [List.length_map, List.length_zip]; omega
      have hn : (Els.lst ((xs.zip ys).map fun p => mergeLs (mergeM M g) g p.1 p.2)).n = (bif g then Els.lst xs else Els.lst ys).n := by
        show List.length _ = _
        rw [hz]
        cases g with
        | true => rfl
        | false => exact hlen
      refine ⟨hn, by rw [hn]; exact h.1, fun k hk => ?_⟩
      rw [hn] at hk
      have h2 := h.2 k hk
      have hkx : k < xs.length := by cases g with
        | true => exact hk
        | false => have : k < ys.length := hk; omega
      have hky : k < ys.length := by omega
      show HL F N nx R (nthL _ k) _
      rw [nthL_get, List.getD_eq_getElem?_getD, List.getElem?_map]
      have e1 : (xs.zip ys)[k]? = some (xs[k], ys[k]) := by
        rw [List.getElem?_zip_eq_some]
        exact ⟨List.getElem?_eq_getElem hkx, List.getElem?_eq_getElem hky⟩
      rw [e1]
      show HL F N nx R (mergeLs (mergeM M g) g xs[k] ys[k]) _
      refine mergeLs_ok (fun hh => mergeM_ok hM hh) ?_
      have e2 : (bif g then Els.lst xs else Els.lst ys).nth k = bif g then xs[k] else ys[k] := by
        cases g with
        | true => show nthL xs k = xs[k]; rw [nthL_get, List.getD_eq_getElem?_getD, List.getElem?_eq_getElem hkx]; rfl
        | false => show nthL ys k = ys[k]; rw [nthL_get, List.getD_eq_getElem?_getD, List.getElem?_eq_getElem hky]; rfl
      rw [e2] at h2
      exact h2
/-- A merged object is what the one of the side is. -/
theorem mergeOb_ok (hM : MvOk N nx (side g) M) {i : Nat} {x y r : Ob} (he : mergeOb M g x y = some r) : (ObR F N nx R i (bif g then x else y) → ObR F N nx R i r) ∧ ∀ gg, foot N i r gg ↔ foot N i (bif g then x else y) gg := by
  unfold mergeOb at he
  split at he <;> first | (cases he; done) | skip
  · rename_i e cs e' cs'
    cases hb : Nat.beq e e' with
    | false => rw [hb] at he; cases he
    | true =>
      rw [hb] at he
      cases he
      obtain rfl := Nat.eq_of_beq_eq_true hb
      refine ⟨fun h => ?_, fun gg => by cases g <;> exact Iff.rfl⟩
      have h' : ObR F N nx R i (.box e (bif g then cs else cs')) := by cases g <;> exact h
      obtain ⟨vs, h1, h2⟩ := h'
      exact ⟨vs, mergeLs_ok (fun hh => mergeM_ok hM hh) h1, h2⟩
  · rename_i e sz els e' sz' els'
    cases hb : Nat.beq e e' with
    | false => rw [hb] at he; cases he
    | true =>
      cases hb2 : Nat.beq sz sz' with
      | false => rw [hb, hb2] at he; cases he
      | true =>
        rw [hb, hb2] at he
        simp only [cond_true] at he
        split at he <;> first | (cases he; done) | skip
        rename_i r' hr
        cases he
        obtain rfl := Nat.eq_of_beq_eq_true hb
        obtain rfl := Nat.eq_of_beq_eq_true hb2
        refine ⟨fun h => ?_, fun gg => by cases g <;> exact Iff.rfl⟩
        have h' : ObR F N nx R i (.arr e sz (bif g then els else els')) := by cases g <;> exact h
        obtain ⟨zs, h1, h2⟩ := h'
        obtain ⟨k1, k2⟩ := mergeEls_ok hM hr ⟨h1.1, h2⟩
        exact ⟨zs, by rw [k1]; exact h1, k2.2⟩
  · rename_i k v l k' v' l'
    split at he <;> first | (cases he; done) | skip
    rename_i h1 h2 _ _
    obtain ⟨h1⟩ := h1
    obtain ⟨h2⟩ := h2
    subst h1 h2
    cases he
    exact ⟨fun h => by cases g <;> exact h, fun gg => by cases g <;> exact Iff.rfl⟩
  · cases he
    exact ⟨fun h => by cases g <;> exact h, fun gg => by cases g <;> exact Iff.rfl⟩
end

/-! ### the moves, done to one side -/
def mvS (sel oth : Mv → Option Nat) (oo : Objs) : Mvs → Nat → Objs → Option (Nat × Objs)
  | [], nx, o => some (nx, o)
  | e :: r, nx, o => match mvS sel oth oo r nx o with
    | some (nx', o') => bif Nat.ble nx' e.m then (match sel e with
      | some i => match lookO i o' with
        | some (.arr t sz els) => bif Nat.blt i nx' then some (e.m + 1, (i, none) :: (e.m, some (.arr t sz els)) :: o') else none
        | _ => none
      | none => match oth e with
        | some j => match lookO j oo with
          | some (.arr t sz _) => some (e.m + 1, (e.m, some (.arr t sz (.lst []))) :: o')
          | _ => none
        | none => none) else none
    | none => none
section
variable {F : Nat → Prop} {N : Nm} {nx : Nat} {o : Objs} {R : World}
/-- A row goes on under another number. -/
theorem HRel.move (h : HRel F N nx o R) {i m : Nat} {t : TypeId} {sz : Nat} {els : Els} (hl : lookO i o = some (.arr t sz els)) (hm : nx ≤ m) :
    HRel F (N.setQ m (N.q i)) (m + 1) ((i, none) :: (m, some (.arr t sz els)) :: o) R ∧ Step F N nx o R F (N.setQ m (N.q i)) (m + 1) ((i, none) :: (m, some (.arr t sz els)) :: o) R := by
  have hq : ∀ k, k < nx → (N.setQ m (N.q i)).q k = N.q k := fun k hk => setF_ne N.q _ (by omega)
  have hqm : (N.setQ m (N.q i)).q m = N.q i := setF_same N.q m _
  have st : Ext F N nx R F (N.setQ m (N.q i)) (m + 1) R := ⟨by omega, fun _ _ => rfl, hq, fun _ h => h, fun _ _ => rfl⟩
  have cases_ : ∀ k ob, lookO k ((i, none) :: (m, some (.arr t sz els)) :: o) = some ob → (k = m ∧ k ≠ i ∧ ob = .arr t sz els) ∨ (k ≠ m ∧ k ≠ i ∧ lookO k o = some ob) := fun k ob hk => by
    rw [lookO_cons] at hk
    by_cases hki : k = i
    · rw [if_pos hki] at hk; cases hk
    · rw [if_neg hki, lookO_cons] at hk
      by_cases hkm : k = m
      · rw [if_pos hkm] at hk; cases hk; exact .inl ⟨hkm, hki, rfl⟩
      · rw [if_neg hkm] at hk; exact .inr ⟨hkm, hki, hk⟩
  have fm : ∀ g, foot (N.setQ m (N.q i)) m (.arr t sz els) g → foot N i (.arr t sz els) g := fun g hg => by
    have hg' : blkOf ((N.setQ m (N.q i)).q m) = some g := hg
    rw [hqm] at hg'
    exact hg'
  have fo : ∀ k ob g, lookO k o = some ob → foot (N.setQ m (N.q i)) k ob g → foot N k ob g := fun k ob g hk hg => (foot_step st (h.ob k ob hk).1).1 hg
  refine ⟨⟨h.flt, fun k ob hk => ?_, fun k ob g hk hg => ?_, fun j k x y g hj hk hx hy => ?_⟩, by omega, fun _ _ => rfl, hq, fun _ h => h, fun _ h => .inl h, fun g ⟨k, ob, hk, hg⟩ => ?_, rfl, rfl, rfl, Nat.le_refl _, fun _ _ _ => rfl⟩
  · rcases cases_ k ob hk with ⟨rfl, _, rfl⟩ | ⟨_, _, hk'⟩
    · obtain ⟨_, zs, h1, h2⟩ := h.ob i _ hl
      exact ⟨Nat.lt_succ_self _, zs, by rw [hqm]; exact h1, fun j hj => (h2 j hj).step st⟩
    · obtain ⟨h1, h2⟩ := h.ob k ob hk'
      exact ⟨by omega, h2.step st h1 fun _ _ => rfl⟩
  · rcases cases_ k ob hk with ⟨rfl, _, rfl⟩ | ⟨_, _, hk'⟩
    · exact h.ff i _ g hl (fm g hg)
    · exact h.ff k ob g hk' (fo k ob g hk' hg)
  · rcases cases_ j x hj with ⟨rfl, hji, rfl⟩ | ⟨hjm, hji, hj'⟩
    · rcases cases_ k y hk with ⟨rfl, _, _⟩ | ⟨hkm, hki, hk'⟩
      · rfl
      · exact absurd (h.sep i k _ y g hl hk' (fm g hx) (fo k y g hk' hy)).symm hki
    · rcases cases_ k y hk with ⟨rfl, hki, rfl⟩ | ⟨hkm, hki, hk'⟩
      · exact absurd (h.sep j i x _ g hj' hl (fo j x g hj' hx) (fm g hy)) hji
      · exact h.sep j k x y g hj' hk' (fo j x g hj' hx) (fo k y g hk' hy)
  · rcases cases_ k ob hk with ⟨rfl, _, rfl⟩ | ⟨_, _, hk'⟩
    · exact .inl ⟨i, _, hl, fm g hg⟩
    · exact .inl ⟨k, ob, hk', fo k ob g hk' hg⟩
/-- A row that is nil. -/
theorem HRel.nilRow (h : HRel F N nx o R) {m : Nat} (t : TypeId) (sz : Nat) {els : Els} (he : els.n = 0) (hm : nx ≤ m) :
    HRel F (N.setQ m (.slice none 0 0)) (m + 1) ((m, some (.arr t sz els)) :: o) R ∧ Step F N nx o R F (N.setQ m (.slice none 0 0)) (m + 1) ((m, some (.arr t sz els)) :: o) R := by
  have hq : ∀ k, k < nx → (N.setQ m (.slice none 0 0)).q k = N.q k := fun k hk => setF_ne N.q _ (by omega)
  have hqm : (N.setQ m (.slice none 0 0)).q m = .slice none 0 0 := setF_same N.q m _
  have st : Ext F N nx R F (N.setQ m (.slice none 0 0)) (m + 1) R := ⟨by omega, fun _ _ => rfl, hq, fun _ h => h, fun _ _ => rfl⟩
  have cases_ : ∀ k ob, lookO k ((m, some (.arr t sz els)) :: o) = some ob → (k = m ∧ ob = .arr t sz els) ∨ (k ≠ m ∧ lookO k o = some ob) := fun k ob hk => by
    rw [lookO_cons] at hk
    by_cases hkm : k = m
    · rw [if_pos hkm] at hk; cases hk; exact .inl ⟨hkm, rfl⟩
    · rw [if_neg hkm] at hk; exact .inr ⟨hkm, hk⟩
  have fm : ∀ g, ¬ foot (N.setQ m (.slice none 0 0)) m (.arr t sz els) g := fun g hg => by
    have hg' : blkOf ((N.setQ m (.slice none 0 0)).q m) = some g := hg
    rw [hqm] at hg'
    cases hg'
  have fo : ∀ k ob g, lookO k o = some ob → foot (N.setQ m (.slice none 0 0)) k ob g → foot N k ob g := fun k ob g hk hg => (foot_step st (h.ob k ob hk).1).1 hg
  refine ⟨⟨h.flt, fun k ob hk => ?_, fun k ob g hk hg => ?_, fun j k x y g hj hk hx hy => ?_⟩, by omega, fun _ _ => rfl, hq, fun _ h => h, fun _ h => .inl h, fun g ⟨k, ob, hk, hg⟩ => ?_, rfl, rfl, rfl, Nat.le_refl _, fun _ _ _ => rfl⟩
  · rcases cases_ k ob hk with ⟨rfl, rfl⟩ | ⟨_, hk'⟩
    · refine ⟨Nat.lt_succ_self _, [], ?_, fun j hj => absurd hj (by omega)⟩
      rw [hqm]
      exact ⟨by rw [he]; simp, .inl ⟨none, rfl, he⟩⟩
    · obtain ⟨h1, h2⟩ := h.ob k ob hk'
      exact ⟨by omega, h2.step st h1 fun _ _ => rfl⟩
  · rcases cases_ k ob hk with ⟨rfl, rfl⟩ | ⟨_, hk'⟩
    · exact absurd hg (fm g)
    · exact h.ff k ob g hk' (fo k ob g hk' hg)
  · rcases cases_ j x hj with ⟨rfl, rfl⟩ | ⟨hjm, hj'⟩
    · exact absurd hx (fm g)
    · rcases cases_ k y hk with ⟨rfl, rfl⟩ | ⟨hkm, hk'⟩
      · exact absurd hy (fm g)
      · exact h.sep j k x y g hj' hk' (fo j x g hj' hx) (fo k y g hk' hy)
  · rcases cases_ k ob hk with ⟨rfl, rfl⟩ | ⟨_, hk'⟩
    · exact absurd hg (fm g)
    · exact .inl ⟨k, ob, hk', fo k ob g hk' hg⟩
theorem mvS_ok (h : HRel F N nx o R) {sel oth : Mv → Option Nat} {oo : Objs} : ∀ {M : Mvs} {nx' : Nat} {o' : Objs}, mvS sel oth oo M nx o = some (nx', o') →
    ∃ N', HRel F N' nx' o' R ∧ Step F N nx o R F N' nx' o' R ∧ MvOk N' nx' sel M ∧ ∃ d, o' = d ++ o
  | [], nx', o', he => by cases he; exact ⟨N, h, .refl, (fun e he => by cases he), [], rfl⟩
  | e :: r, nx', o', he => by
    unfold mvS at he
    split at he <;> first | (cases he; done) | skip
    rename_i nx1 o1 h1
    obtain ⟨N1, k1, k2, k3, d, k4⟩ := mvS_ok h h1
    cases hb : Nat.ble nx1 e.m with
    | false => rw [hb] at he; cases he
    | true =>
      rw [hb] at he
      simp only [cond_true] at he
      have hm := Nat.le_of_ble_eq_true hb
      split at he
      · rename_i i hi
        split at he <;> first | (cases he; done) | skip
        rename_i t sz els hl
        cases hlt : Nat.blt i nx1 with
        | false => rw [hlt] at he; cases he
        | true =>
          rw [hlt] at he
          cases he
          have hin : i < nx1 := Nat.le_of_ble_eq_true hlt
          obtain ⟨q1, q2⟩ := k1.move hl hm
          refine ⟨_, q1, k2.trans q2, fun e' he' => ?_, (i, none) :: (e.m, some (.arr t sz els)) :: d, by rw [k4]; rfl⟩
          rcases List.mem_cons.1 he' with rfl | he'
          · refine ⟨Nat.lt_succ_self _, fun i' hi' => ?_, fun hn => ?_⟩
            · rw [hi] at hi'
              cases hi'
              refine ⟨by omega, ?_⟩
              show setF N1.q e'.m (N1.q i) e'.m = setF N1.q e'.m (N1.q i) i
              rw [setF_same, setF_ne N1.q _ (by omega)]
            · rw [hi] at hn; cases hn
          · obtain ⟨g1, g2, g3⟩ := k3 e' he'
            refine ⟨by omega, fun i' hi' => ?_, fun hn => ?_⟩
            · obtain ⟨g4, g5⟩ := g2 i' hi'
              refine ⟨by omega, ?_⟩
              show setF N1.q e.m (N1.q i) e'.m = setF N1.q e.m (N1.q i) i'
              rw [setF_ne N1.q _ (by omega : e'.m ≠ e.m), setF_ne N1.q _ (by omega : i' ≠ e.m)]
              exact g5
            · show setF N1.q e.m (N1.q i) e'.m = _
              rw [setF_ne N1.q _ (by omega : e'.m ≠ e.m)]; exact g3 hn
      · rename_i hi
        split at he <;> first | (cases he; done) | skip
        rename_i j hj
        split at he <;> first | (cases he; done) | skip
        rename_i t sz els hl
        cases he
        obtain ⟨q1, q2⟩ := k1.nilRow t sz (els := .lst []) rfl hm
        refine ⟨_, q1, k2.trans q2, fun e' he' => ?_, (e.m, some (.arr t sz (.lst []))) :: d, by rw [k4]; rfl⟩
        rcases List.mem_cons.1 he' with rfl | he'
        · refine ⟨Nat.lt_succ_self _, fun i' hi' => ?_, fun hn => ?_⟩
          · rw [hi] at hi'; cases hi'
          · exact setF_same N1.q _ _
        · obtain ⟨g1, g2, g3⟩ := k3 e' he'
          refine ⟨by omega, fun i' hi' => ?_, fun hn => ?_⟩
          · obtain ⟨g4, g5⟩ := g2 i' hi'
            refine ⟨by omega, ?_⟩
            show setF N1.q e.m _ e'.m = setF N1.q e.m _ i'
            rw [setF_ne N1.q _ (by omega : e'.m ≠ e.m), setF_ne N1.q _ (by omega : i' ≠ e.m)]
            exact g5
          · show setF N1.q e.m _ e'.m = _
            rw [setF_ne N1.q _ (by omega : e'.m ≠ e.m)]; exact g3 hn
end

/-! ### two states put together -/
def inW (u : Nat) : List Nat → Bool
  | [] => false
  | k :: r => bif Nat.beq k u then true else inW u r
def depW (W : List Nat) : A → Bool
  | .opt k _ x => bif inW k W then true else depW W x
  | _ => false
def killW (W : List Nat) : Slots → Slots
  | [] => []
  | (k, x) :: r => (bif depW W x then (k, .dead) else (k, x)) :: killW W r
def merge2 (M : Mvs) (g : Bool) : Option A → Option A → A
  | some x, some y => mergeM M g x y
  | _, _ => .dead
def mergeW (M : Mvs) (g : Bool) (t1 t2 : Slots) : List Nat → Slots
  | [] => []
  | u :: r => (u, merge2 M g (look u t1) (look u t2)) :: mergeW M g t1 t2 r
def merge2o (M : Mvs) (g : Bool) : Option Ob → Option Ob → Option Ob
  | some x, some y => mergeOb M g x y
  | _, _ => none
def mergeOs (M : Mvs) (g : Bool) (o1 o2 : Objs) : List Nat → Objs
  | [] => []
  | i :: r => (i, merge2o M g (lookO i o1) (lookO i o2)) :: mergeOs M g o1 o2 r
def collT (o1 o2 : Objs) (t1 t2 : Slots) : List Nat → Coll → Coll
  | [], c => c
  | u :: r, c => match look u t1, look u t2 with
    | some x, some y => collT o1 o2 t1 t2 r (collA o1 o2 5 x y c)
    | _, _ => collT o1 o2 t1 t2 r c
def collO (o1 o2 : Objs) : List Nat → Coll → Coll
  | [], c => c
  | i :: r, c => match lookO i o1, lookO i o2 with
    | some (.box _ cs), some (.box _ cs') => collO o1 o2 r (collLs (collA o1 o2 5) cs cs' c)
    | _, _ => collO o1 o2 r c
def newK (o : Objs) (k : Nat) : List Nat := keysO (o.take (o.length - k))
def mergeS' (g : Bool) (W : List Nat) (s0 s1 s2 : St) (nx : Nat) (M : Mvs) : St :=
  match mvS Mv.l Mv.r s2.o M nx s1.o, mvS Mv.r Mv.l s1.o M nx s2.o with
  | some (n1, o1), some (n2, o2) => ⟨s0.n, Nat.max n1 n2, mergeW M g s1.t s2.t W ++ killW W s0.t, mergeOs M g o1 o2 (newK o1 s0.o.length ++ newK o2 s0.o.length) ++ s0.o⟩
  | _, _ => ⟨s0.n, nx, [], (s0.o.map fun e => (e.1, none)) ++ s0.o⟩
def mergeS (g : Bool) (W : List Nat) (s0 s1 s2 : St) : St :=
  mergeS' g W s0 s1 s2 (Nat.max s1.nx s2.nx) (collO s1.o s2.o (newK s1.o s0.o.length) (collT s1.o s2.o s1.t s2.t W ([], Nat.max s1.nx s2.nx))).1

structure Sub (s s' : St) : Prop where
  n : s'.n = s.n
  seq : ∃ d, s'.o = d ++ s.o
theorem Sub.refl (s : St) : Sub s s := ⟨rfl, [], rfl⟩
theorem Sub.trans {s s1 s2 : St} (h : Sub s s1) (k : Sub s1 s2) : Sub s s2 := by
  obtain ⟨d, hd⟩ := h.seq
  obtain ⟨e, he⟩ := k.seq
  exact ⟨k.n.trans h.n, e ++ d, by rw [he, hd, List.append_assoc]⟩

section
variable {F F0 : Nat → Prop} {N N0 : Nm} {nx nx' : Nat} {o o' : Objs} {R R0 : World}
theorem HRel.nxup (h : HRel F N nx o R) (hn : nx ≤ nx') : HRel F N nx' o R ∧ Step F N nx o R F N nx' o R := by
  have st : Ext F N nx R F N nx' R := ⟨hn, fun _ _ => rfl, fun _ _ => rfl, fun _ h => h, fun _ _ => rfl⟩
  exact ⟨⟨h.flt, fun i ob hi => ⟨Nat.lt_of_lt_of_le (h.ob i ob hi).1 hn, (h.ob i ob hi).2.step st (h.ob i ob hi).1 fun _ _ => rfl⟩, h.ff, h.sep⟩, hn, fun _ _ => rfl, fun _ _ => rfl, fun _ h => h, fun _ h => .inl h, fun _ h => .inl h, rfl, rfl, rfl, Nat.le_refl _, fun _ _ _ => rfl⟩
/-- Less is said of the objects. -/
theorem HRel.less (h : HRel F N nx o R) (ho : ∀ i ob, lookO i o' = some ob → ∃ ob0, lookO i o = some ob0 ∧ (ObR F N nx R i ob0 → ObR F N nx R i ob) ∧ ∀ g, foot N i ob g ↔ foot N i ob0 g) : HRel F N nx o' R ∧ Step F N nx o R F N nx o' R := by
  refine ⟨⟨h.flt, fun i ob hi => ?_, fun i ob g hi hg => ?_, fun i j x y g hi hj hx hy => ?_⟩, Nat.le_refl _, fun _ _ => rfl, fun _ _ => rfl, fun _ h => h, fun _ h => .inl h, fun g ⟨i, ob, hi, hg⟩ => ?_, rfl, rfl, rfl, Nat.le_refl _, fun _ _ _ => rfl⟩
  · obtain ⟨ob0, h1, h2, h3⟩ := ho i ob hi
    exact ⟨(h.ob i ob0 h1).1, h2 (h.ob i ob0 h1).2⟩
  · obtain ⟨ob0, h1, h2, h3⟩ := ho i ob hi
    exact h.ff i ob0 g h1 ((h3 g).1 hg)
  · obtain ⟨x0, h1, h2, h3⟩ := ho i x hi
    obtain ⟨y0, k1, k2, k3⟩ := ho j y hj
    exact h.sep i j x0 y0 g h1 k1 ((h3 g).1 hx) ((k3 g).1 hy)
  · obtain ⟨ob0, h1, h2, h3⟩ := ho i ob hi
    exact .inl ⟨i, ob0, h1, (h3 g).1 hg⟩
theorem HS.congrW {tm tm' : Nat → Value} {W : List Nat} (ht : ∀ k, inW k W = false → tm' k = tm k) : ∀ {x : A} {y : Value}, depW W x = false → HS F N nx R tm x y → HS F N nx R tm' x y
  | .opt k b x, y, hd, h => by
    unfold depW at hd
    cases hk : inW k W with
    | true => rw [hk] at hd; cases hd
    | false =>
      rw [hk] at hd
      simp only [HS] at h ⊢
      rw [ht k hk]
      exact ⟨fun hb => HS.congrW ht hd (h.1 hb), h.2⟩
  | .v _, _, _, h => (HS_plain rfl).2 ((HS_plain rfl).1 h)
  | .sl _ _, _, _, h => (HS_plain rfl).2 ((HS_plain rfl).1 h)
  | .own _ _, _, _, h => (HS_plain rfl).2 ((HS_plain rfl).1 h)
  | .ownx _ _ _ _, _, _, h => (HS_plain rfl).2 ((HS_plain rfl).1 h)
  | .sq _, _, _, h => (HS_plain rfl).2 ((HS_plain rfl).1 h)
  | .vw _ _ _ _ _, _, _, h => (HS_plain rfl).2 ((HS_plain rfl).1 h)
  | .el _ _ _ _, _, _, h => (HS_plain rfl).2 ((HS_plain rfl).1 h)
  | .ref _, _, _, h => (HS_plain rfl).2 ((HS_plain rfl).1 h)
  | .mp _, _, _, h => (HS_plain rfl).2 ((HS_plain rfl).1 h)
  | .nl, _, _, h => (HS_plain rfl).2 ((HS_plain rfl).1 h)
  | .it _ _, _, _, h => (HS_plain rfl).2 ((HS_plain rfl).1 h)
  | .fn _ _ _, _, _, h => (HS_plain rfl).2 ((HS_plain rfl).1 h)
  | .agg _, _, _, h => (HS_plain rfl).2 ((HS_plain rfl).1 h)
  | .tup _, _, _, h => (HS_plain rfl).2 ((HS_plain rfl).1 h)
  | .dead, _, _, h => (HS_plain rfl).2 ((HS_plain rfl).1 h)
theorem look_append (u : Nat) : ∀ (A B : Slots), look u (A ++ B) = match look u A with | some x => some x | none => look u B
  | [], B => rfl
  | (k, x) :: r, B => by
    show (bif Nat.beq k u then some x else look u (r ++ B)) = match (bif Nat.beq k u then some x else look u r) with | some x => some x | none => look u B
    cases Nat.beq k u with
    | true => rfl
    | false => exact look_append u r B
theorem look_mergeW {M : Mvs} {g : Bool} {t1 t2 : Slots} {u : Nat} : ∀ {W : List Nat}, look u (mergeW M g t1 t2 W) = bif inW u W then some (merge2 M g (look u t1) (look u t2)) else none
  | [] => rfl
  | k :: r => by
    show (bif Nat.beq k u then some (merge2 M g (look k t1) (look k t2)) else look u (mergeW M g t1 t2 r)) = bif (bif Nat.beq k u then true else inW u r) then _ else _
    cases hb : Nat.beq k u with
    | true => rw [Nat.eq_of_beq_eq_true hb]; rfl
    | false => exact look_mergeW
theorem look_killW {W : List Nat} {u : Nat} {x : A} : ∀ {t : Slots}, look u (killW W t) = some x → x = .dead ∨ (look u t = some x ∧ depW W x = false)
  | [], h => by cases h
  | (j, y) :: r, h => by
    unfold killW at h
    show x = .dead ∨ ((bif Nat.beq j u then some y else look u r) = some x ∧ _)
    cases hd : depW W y with
    | true =>
      rw [hd] at h
      have h' : (bif Nat.beq j u then some A.dead else look u (killW W r)) = some x := h
      cases hj : Nat.beq j u with
      | true => rw [hj] at h'; cases h'; exact .inl rfl
      | false => rw [hj] at h'; exact look_killW h'
    | false =>
      rw [hd] at h
      have h' : (bif Nat.beq j u then some y else look u (killW W r)) = some x := h
      cases hj : Nat.beq j u with
      | true => rw [hj] at h'; obtain rfl : y = x := Option.some.inj h'; exact .inr ⟨rfl, hd⟩
      | false => rw [hj] at h'; exact look_killW h'
theorem keysO_merge (M : Mvs) (g : Bool) (o1 o2 : Objs) : ∀ l, keysO (mergeOs M g o1 o2 l) = l
  | [] => rfl
  | i :: r => by
    show i :: keysO (mergeOs M g o1 o2 r) = i :: r
    rw [keysO_merge M g o1 o2 r]
theorem lookO_mergeOs {M : Mvs} {g : Bool} {o1 o2 : Objs} {i : Nat} : ∀ {l : List Nat}, i ∈ l → lookO i (mergeOs M g o1 o2 l) = merge2o M g (lookO i o1) (lookO i o2)
  | [], h => by cases h
  | k :: r, h => by
    show (bif Nat.beq k i then merge2o M g (lookO k o1) (lookO k o2) else lookO i (mergeOs M g o1 o2 r)) = _
    cases hb : Nat.beq k i with
    | true => rw [Nat.eq_of_beq_eq_true hb]; rfl
    | false =>
      rcases List.mem_cons.1 h with rfl | h
      · simp at hb
      · exact lookO_mergeOs h
theorem lookO_all_none {i : Nat} : ∀ {o : Objs}, lookO i (o.map fun e => (e.1, none)) = none
  | [] => rfl
  | (k, x) :: r => by
    show (bif Nat.beq k i then none else lookO i (r.map fun e => (e.1, none))) = none
    cases Nat.beq k i with
    | true => rfl
    | false => exact lookO_all_none
theorem keysO_map : ∀ {o : Objs}, keysO (o.map fun e => (e.1, none)) = keysO o
  | [] => rfl
  | (k, x) :: r => by
    show k :: keysO (r.map fun e => (e.1, none)) = k :: keysO r
    rw [keysO_map]
theorem lookO_wipe {i : Nat} {o : Objs} : lookO i ((o.map fun e => (e.1, none)) ++ o) = none := by
  by_cases h : i ∈ keysO o
  · rw [lookO_in (by rw [keysO_map]; exact h), lookO_all_none]
  · rw [lookO_none (by rw [keysO_map]; exact h)]
    have := lookO_none (A := o) (B := []) h
    rw [List.append_nil] at this
    exact this
theorem mvS_seq {sel oth : Mv → Option Nat} {oo : Objs} {nx : Nat} {o : Objs} : ∀ {M : Mvs} {nx' : Nat} {o' : Objs}, mvS sel oth oo M nx o = some (nx', o') → ∃ d, o' = d ++ o
  | [], nx', o', he => by cases he; exact ⟨[], rfl⟩
  | e :: r, nx', o', he => by
    unfold mvS at he
    split at he <;> first | (cases he; done) | skip
    rename_i nx1 o1 h1
    obtain ⟨d, hd⟩ := mvS_seq h1
    cases hb : Nat.ble nx1 e.m with
    | false => rw [hb] at he; cases he
    | true =>
      rw [hb] at he
      simp only [cond_true] at he
      split at he
      · rename_i i hi
        split at he <;> first | (cases he; done) | skip
        rename_i t sz els hl
        cases hlt : Nat.blt i nx1 with
        | false => rw [hlt] at he; cases he
        | true => rw [hlt] at he; cases he; exact ⟨(i, none) :: (e.m, some (.arr t sz els)) :: d, by rw [hd]; rfl⟩
      · split at he <;> first | (cases he; done) | skip
        split at he <;> first | (cases he; done) | skip
        rename_i t sz els hl
        cases he
        exact ⟨(e.m, some (.arr t sz (.lst []))) :: d, by rw [hd]; rfl⟩
theorem aggA_plain (cs : List A) : (aggA cs).plain = true := by unfold aggA; split <;> rfl
theorem mergeSl_plain (g : Bool) (c : TC) (l : List (U c)) (c' : TC) (l' : List (U c')) : (mergeSl g c l c' l').plain = true := by unfold mergeSl; split <;> rfl
theorem bif_plain {b : Bool} {x y : A} (hx : x.plain = true) (hy : y.plain = true) : (bif b then x else y).plain = true := by cases b <;> assumption
theorem mergeA_plain : ∀ (d : Nat) (g : Bool) (x y : A), (mergeA d g x y).plain = true
  | 0, _, _, _ => rfl
  | d + 1, g, x, y => by
    unfold mergeA
    split <;> first | rfl | exact aggA_plain _ | exact mergeSl_plain _ _ _ _ _ | (refine bif_plain ?_ rfl; first | rfl | exact bif_plain rfl rfl) | (split <;> rfl)
theorem mergeX_plain (M : Mvs) : ∀ (d : Nat) (g : Bool) (x y : A), (mergeX M d g x y).plain = true
  | 0, _, _, _ => rfl
  | d + 1, g, x, y => by
    unfold mergeX
    split <;> first | rfl | exact aggA_plain _ | exact mergeA_plain _ _ _ _ | (refine bif_plain ?_ ?_ <;> first | rfl | (split <;> rfl) | (refine bif_plain ?_ rfl; first | rfl | exact bif_plain rfl rfl))
theorem mergeM_plain (M : Mvs) (g : Bool) (x y : A) : (mergeM M g x y).plain = true := mergeX_plain M 5 g x y
theorem mergeM_opt {M : Mvs} {g : Bool} {x y : A} (h : (x.plain && y.plain) = false) : mergeM M g x y = .dead := by
  cases x <;> cases y <;> first | (cases h; done) | rfl
theorem lookO_newK {i : Nat} {d o : Objs} (h : i ∉ newK (d ++ o) o.length) : lookO i (d ++ o) = lookO i o := by
  unfold newK at h
  rw [List.length_append, Nat.add_sub_cancel, List.take_left'] at h
  · exact lookO_none h
  · rfl
end

section
variable {Z : Base} {F F0 : Nat → Prop} {N N0 : Nm} {s0 s1 s2 : St} {a a0 : Act} {R R0 : World} {W : List Nat} {g : Bool}
abbrev midB (F : Nat → Prop) (N : Nm) (s : St) (a : Act) (R : World) (W : List Nat) : Base := ⟨F, N, s.nx, s.o, R, tmOf a, fun u => inW u W = true⟩
theorem Rel.start (h0 : Rel Z F0 N0 s0 a0 R0) (W : List Nat) : Rel (midB F0 N0 s0 a0 R0 W) F0 N0 s0 a0 R0 := ⟨h0.defers, h0.size, h0.slots, h0.hp, .refl, fun _ _ => rfl⟩
theorem merge_core (h0 : Rel Z F0 N0 s0 a0 R0) {s : St} (h : Rel (midB F0 N0 s0 a0 R0 W) F N s a R) (hW : ∀ u, inW u W = true → Z.W u) (hn : s.n = s0.n) {nx' : Nat} {o' : Objs} {N' : Nm} (k1 : HRel F N' nx' o' R) (k2 : Step F N s.nx s.o R F N' nx' o' R) {t : Slots} {os : Objs}
    (ht : ∀ u x, look u t = some x → HS F N' nx' R (tmOf a) x (tmOf a u)) (ho : ∀ i ob, lookO i os = some ob → ∃ ob0, lookO i o' = some ob0 ∧ (ObR F N' nx' R i ob0 → ObR F N' nx' R i ob) ∧ ∀ gg, foot N' i ob gg ↔ foot N' i ob0 gg) : Rel Z F N' ⟨s0.n, nx', t, os⟩ a R := by
  obtain ⟨q1, q2⟩ := k1.less ho
  refine ⟨h.defers, h.size.trans hn, ht, q1, ((h0.st.trans h.st).trans k2).trans q2, fun u hu => ?_⟩
  rw [h.tm u fun hw => hu (hW u hw)]
  exact h0.tm u hu
/-- **Two states put together.** -/
theorem Rel.merge (h0 : Rel Z F0 N0 s0 a0 R0) (h : Rel (midB F0 N0 s0 a0 R0 W) F N (bif g then s1 else s2) a R) (hW : ∀ u, inW u W = true → Z.W u) (e1 : Sub s0 s1) (e2 : Sub s0 s2) : ∃ N', Rel Z F N' (mergeS g W s0 s1 s2) a R := by
  have hn : (bif g then s1 else s2).n = s0.n := by cases g <;> first | exact e1.n | exact e2.n
  have hnx : (bif g then s1 else s2).nx ≤ Nat.max s1.nx s2.nx := by cases g <;> first | exact Nat.le_max_left .. | exact Nat.le_max_right ..
  obtain ⟨u1, u2⟩ := h.hp.nxup hnx
  unfold mergeS
  generalize (collO s1.o s2.o (newK s1.o s0.o.length) (collT s1.o s2.o s1.t s2.t W ([], Nat.max s1.nx s2.nx))).1 = M
  unfold mergeS'
  split
  · rename_i n1 o1 n2 o2 g1 g2
    have main : ∃ N' nx' o', nx' ≤ Nat.max n1 n2 ∧ HRel F N' nx' o' R ∧ Step F N (Nat.max s1.nx s2.nx) (bif g then s1 else s2).o R F N' nx' o' R ∧ MvOk N' nx' (side g) M ∧ o' = (bif g then o1 else o2) := by
      cases g with
      | true =>
        obtain ⟨N', m1, m2, m3, _⟩ := mvS_ok u1 g1
        exact ⟨N', n1, o1, Nat.le_max_left .., m1, m2, m3, rfl⟩
      | false =>
        obtain ⟨N', m1, m2, m3, _⟩ := mvS_ok u1 g2
        exact ⟨N', n2, o2, Nat.le_max_right .., m1, m2, m3, rfl⟩
    have d1 : ∃ d, o1 = d ++ s0.o := by
      obtain ⟨d, hd⟩ := e1.seq
      obtain ⟨e, he⟩ := mvS_seq g1
      exact ⟨e ++ d, by rw [he, hd, List.append_assoc]⟩
    have d2 : ∃ d, o2 = d ++ s0.o := by
      obtain ⟨d, hd⟩ := e2.seq
      obtain ⟨e, he⟩ := mvS_seq g2
      exact ⟨e ++ d, by rw [he, hd, List.append_assoc]⟩
    obtain ⟨N', nx', o', hle, m1, m2, m3, rfl⟩ := main
    obtain ⟨q1, q2⟩ := m1.nxup hle
    have m3' : MvOk N' (Nat.max n1 n2) (side g) M := fun e he => ⟨Nat.lt_of_lt_of_le (m3 e he).1 hle, fun i hi => ⟨Nat.lt_of_lt_of_le ((m3 e he).2.1 i hi).1 hle, ((m3 e he).2.1 i hi).2⟩, (m3 e he).2.2⟩
    have hst := (u2.trans m2).trans q2
    have hx : Ext F N (bif g then s1 else s2).nx R F N' (Nat.max n1 n2) R := hst.ext h.hp
    refine ⟨N', merge_core h0 h hW hn q1 hst (fun u x hu => ?_) fun i ob hi => ?_⟩
    · rw [look_append, look_mergeW] at hu
      cases hw : inW u W with
      | true =>
        rw [hw] at hu
        have hu' : merge2 M g (look u s1.t) (look u s2.t) = x := Option.some.inj hu
        unfold merge2 at hu'
        split at hu'
        · rename_i x1 x2 k1 k2
          have hs : HS F N' (Nat.max n1 n2) R (tmOf a) (bif g then x1 else x2) (tmOf a u) := by
            cases g with
            | true => exact (h.slots u x1 k1).step hx
            | false => exact (h.slots u x2 k2).step hx
          subst hu'
          cases hp : (x1.plain && x2.plain) with
          | true =>
            rw [Bool.and_eq_true] at hp
            have hs' : Hv F N' (Nat.max n1 n2) R (bif g then x1 else x2) (tmOf a u) := by cases g <;> first | exact (HS_plain hp.1).1 hs | exact (HS_plain hp.2).1 hs
            have hm := mergeM_ok m3' hs'
            exact (HS_plain (mergeM_plain _ _ _ _)).2 hm
          | false =>
            have := mergeM_opt (M := M) (g := g) hp
            rw [this]
            exact (HS_plain rfl).2 (.dead _)
        · subst hu'
          exact (HS_plain rfl).2 (.dead _)
      | false =>
        rw [hw] at hu
        have hu' : look u (killW W s0.t) = some x := hu
        have htm : ∀ k, inW k W = false → tmOf a k = tmOf a0 k := fun k hk => h.tm k fun hh => by
          have hh' : inW k W = true := hh
          rw [hk] at hh'; cases hh'
        rcases look_killW hu' with rfl | ⟨k1, k2⟩
        · exact (HS_plain rfl).2 (.dead _)
        · rw [htm u hw]
          exact HS.congrW htm k2 (((h0.slots u x k1).step (h.st.ext h0.hp)).step hx)
    · by_cases hk : i ∈ newK o1 s0.o.length ++ newK o2 s0.o.length
      · rw [lookO_in (by rw [keysO_merge]; exact hk), lookO_mergeOs hk] at hi
        unfold merge2o at hi
        split at hi <;> first | (cases hi; done) | skip
        rename_i x1 x2 k1 k2
        obtain ⟨r1, r2⟩ := mergeOb_ok (i := i) (F := F) (N := N') (nx := Nat.max n1 n2) (R := R) m3' hi
        exact ⟨_, by cases g <;> first | exact k1 | exact k2, r1, r2⟩
      · rw [lookO_none (by rw [keysO_merge]; exact hk)] at hi
        refine ⟨ob, ?_, id, fun _ => Iff.rfl⟩
        obtain ⟨d1, hd1⟩ := d1
        obtain ⟨d2, hd2⟩ := d2
        cases g with
        | true =>
          show lookO i o1 = _
          rw [hd1, lookO_newK (by rw [← hd1]; exact fun hh => hk (List.mem_append.2 (.inl hh)))]
          exact hi
        | false =>
          show lookO i o2 = _
          rw [hd2, lookO_newK (by rw [← hd2]; exact fun hh => hk (List.mem_append.2 (.inr hh)))]
          exact hi
  · refine ⟨N, merge_core h0 h hW hn u1 u2 (fun u x hu => by cases hu) fun i ob hi => ?_⟩
    rw [lookO_wipe] at hi
    cases hi
theorem Sub.merge (g : Bool) (W : List Nat) (s0 s1 s2 : St) : Sub s0 (mergeS g W s0 s1 s2) := by
  unfold mergeS
  unfold mergeS'
  split
  · exact ⟨rfl, _, rfl⟩
  · exact ⟨rfl, _, rfl⟩
end
end Go.Proofs.Yteebobbhhgmeiaa
