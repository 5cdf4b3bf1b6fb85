/- A symbolic run over typed data, part H0: rows put together; append, make, copy. -/
import Derived.Test.YteebobbhhgmeiaaTG
import Derived.Lib.AppendStr
import Derived.Maps.AppendAt
import Derived.Laws.MakeOwn
import Derived.Laws.CopyRow
import Derived.Laws.IdiomStrings
namespace Go.Proofs.Yteebobbhhgmeiaa
open Go.RowKit

section
variable {P : Program} {w : World}
theorem run_app_grow (t u ty e : TypeId) (i : TypeInfo) (z : Value) {e' : TypeId} (ht : P.underlying t = some (.slice e)) (hu : P.underlying u = some (.slice e') ∨ P.underlying u = some .string) (hi : P.info? e = some i) (hz : i.zero = some z)
    (b : Option Addr) (sLen sCap m : Nat) (x : Value) (olds news : List Value) (hold : (Builtin.firstCells i.size sLen (.slice b sLen sCap)).run P w.drew = .ok olds.toArray w.drew)
    (hlen : (Builtin.lenOf x).run P w = .ok m w) (hnew : (Builtin.firstCells i.size m x).run P w.drew = .ok news.toArray w.drew)
    (hg : sCap < sLen + m) (h63 : ((sLen + m : Nat) : Int) ≤ 9223372036854775807) (hfit : Builtin.nextslicecap (sLen + m) sCap * i.bytes ≤ 281474976710656) :
    (Builtin.append_ #[t, u] ty #[.slice b sLen sCap, x]).run P w =
      .ok (.slice (some ⟨w.heap.size, 0, none⟩) (sLen + m) (grownCap w (sLen + m) sCap e))
        (w.drew.alloc (.cells (olds.toArray ++ news.toArray ++ Builtin.zeroCells z.cells (grownCap w (sLen + m) sCap e - (sLen + m))) e)) := by
  have h48' : ¬ (281474976710656 < Builtin.nextslicecap (sLen + m) sCap * i.bytes) := by omega
  have hn : ¬ (sLen + m ≤ sCap) := by omega
  have hh' : ¬ (9223372036854775807 < (sLen : Int) + (m : Int)) := by omega
  rcases hu with hu | hu <;> simp [Builtin.append_, run_underlying ht, run_underlying hu, sizeOf, typeInfo, zeroValue, hi, hz, hlen, hn, hh', h48', Question.forced, hold, hnew, newRow, grownCap] <;> rw [← List.append_toArray, Array.append_assoc]
theorem run_app_room (t u ty e : TypeId) (i : TypeInfo) {e' : TypeId} (ht : P.underlying t = some (.slice e)) (hu : P.underlying u = some (.slice e') ∨ P.underlying u = some .string) (hi : P.info? e = some i)
    (g sLen sCap m : Nat) (x : Value) (cur : Array Value) (hg : w.heap[g]? = some (.cells cur e (0, 0))) (news : List Value)
    (hlen : (Builtin.lenOf x).run P w = .ok m w) (hnew : (Builtin.firstCells i.size m x).run P w = .ok news.toArray w) (h1 : ∀ u ∈ news, u.oneCell' = true)
    (hroom : sLen + m ≤ sCap) (hfit : sLen * i.size + news.length ≤ cur.size) :
    (Builtin.append_ #[t, u] ty #[.slice (some ⟨g, 0, none⟩) sLen sCap, x]).run P w =
      .ok (.slice (some ⟨g, 0, none⟩) (sLen + m) sCap) (w.setRow g (cur.toList.take (sLen * i.size) ++ news ++ cur.toList.drop (sLen * i.size + news.length)).toArray) := by
  have hst := run_storeCells_at (P := P) g (sLen * i.size) e news 0 cur w hg (by simpa using hfit) h1
  simp only [Nat.add_zero] at hst
  have e0 : ({ block := g, off := 0 } : Addr).add (sLen * i.size) = ⟨g, sLen * i.size, none⟩ := by rw [add_mk, Nat.zero_add]
  rcases hu with hu | hu <;> simp [Builtin.append_, run_underlying ht, run_underlying hu, sizeOf, typeInfo, hi, hlen, hroom, hnew, storeCells, e0, hst]
theorem run_app_none (t u ty e : TypeId) (i : TypeInfo) {e' : TypeId} (ht : P.underlying t = some (.slice e)) (hu : P.underlying u = some (.slice e') ∨ P.underlying u = some .string) (hi : P.info? e = some i)
    (b : Option Addr) (x : Value) (hlen : (Builtin.lenOf x).run P w = .ok 0 w) (hnew : (Builtin.firstCells i.size 0 x).run P w = .ok #[] w) :
    (Builtin.append_ #[t, u] ty #[.slice b 0 0, x]).run P w = .ok (.slice b 0 0) w := by
  rcases hu with hu | hu <;> cases b <;> simp [Builtin.append_, run_underlying ht, run_underlying hu, sizeOf, typeInfo, hi, hlen, hnew, storeCells]
end

/-! ### rows -/
def RowHL (F : Nat → Prop) (N : Nm) (nx : Nat) (R : World) (els : Els) (size : Nat) (zs : List Value) : Prop :=
  zs.length = els.n * size ∧ ∀ k, k < els.n → HL F N nx R (els.nth k) ((zs.drop (k * size)).take size)
section
variable {F F' : Nat → Prop} {N N' : Nm} {nx nx' : Nat} {R R' : World} {size : Nat}
theorem RowHL.step (st : Ext F N nx R F' N' nx' R') {els : Els} {zs : List Value} (h : RowHL F N nx R els size zs) : RowHL F' N' nx' R' els size zs := ⟨h.1, fun k hk => (h.2 k hk).step st⟩
theorem RowHL.cat {els e1 e2 : Els} {zs us : List Value} (h1 : RowHL F N nx R e1 size zs) (h2 : RowHL F N nx R e2 size us) (hn : els.n = e1.n + e2.n) (ha : ∀ k, k < e1.n → els.nth k = e1.nth k) (hb : ∀ k, k < e2.n → els.nth (e1.n + k) = e2.nth k) : RowHL F N nx R els size (zs ++ us) := by
  refine ⟨by rw [List.length_append, h1.1, h2.1, hn, Nat.add_mul], fun k hk => ?_⟩
  by_cases hlt : k < e1.n
  · rw [ha k hlt]
    have hle : k * size + size ≤ zs.length := by rw [h1.1, ← Nat.succ_mul]; exact Nat.mul_le_mul_right _ hlt
    rw [List.drop_append_of_le_length (by omega), List.take_append_of_le_length (by rw [List.length_drop]; omega)]
    exact h1.2 k hlt
  · have hk2 : k = e1.n + (k - e1.n) := by omega
    rw [hk2, hb (k - e1.n) (by omega)]
    have : (e1.n + (k - e1.n)) * size = zs.length + (k - e1.n) * size := by rw [Nat.add_mul, h1.1]
    rw [this, List.drop_append]
    rw [List.drop_eq_nil_of_le (by omega), List.nil_append, show zs.length + (k - e1.n) * size - zs.length = (k - e1.n) * size by omega]
    exact h2.2 (k - e1.n) (by omega)
theorem RowHL.ty {c : TC} {els : Els} {l : List (U c)} {ps : List Prop} {zs : List Value} (h : RowHL F N nx R els size zs) (he : elsTy c els = some (l, ps)) (hp : ∀ p ∈ ps, p) : RowHL F N nx R (.ty c l) size zs := by
  obtain ⟨h1, h2⟩ := elsTy_ok (F := F) (N := N) (nx := nx) (R := R) he hp
  have hn : (Els.ty c l).n = els.n := h1
  exact ⟨by rw [hn]; exact h.1, fun k hk => by rw [hn] at hk; exact h2 k hk _ (h.2 k hk)⟩
theorem RowHL.nil : RowHL F N nx R (.lst []) size [] := ⟨by simp [Els.n], fun k hk => by cases hk⟩
end

/-- Two rows, one behind the other. -/
def catEls : Els → Els → Option (Els × List Prop)
  | .lst xs, .lst ys => some (.lst (xs ++ ys), [])
  | .ty c l, b => match elsTy c b with
    | some (l', ps) => some (.ty c (l ++ l'), ps)
    | none => none
  | .lst xs, .ty c l => match decs c xs with
    | some (l', ps) => some (.ty c (l' ++ l), ps)
    | none => none
/-- Typed, if it can be. -/
def Els.norm (tc : Option TC) (els : Els) : Els × List Prop := match els with
  | .lst cs => match tc with
    | some c => match decs c cs with
      | some (l, ps) => (.ty c l, ps)
      | none => (els, [])
    | none => (els, [])
  | _ => (els, [])
def subEls (lo n : Nat) : Els → Els
  | .lst cs => .lst ((cs.drop lo).take n)
  | .ty c l => .ty c ((l.drop lo).take n)
def oneEls (o : Objs) : Els → Bool
  | .lst cs => cs.all fun x => oneA x && sqOk o x
  | .ty _ _ => true
section
variable {F F' : Nat → Prop} {N N' : Nm} {nx nx' : Nat} {R R' : World} {size : Nat} {o : Objs}
theorem lst_nth_left {xs ys : List (List A)} {k : Nat} (hk : k < xs.length) : nthL (xs ++ ys) k = nthL xs k := by
  rw [nthL_get, nthL_get, List.getD_eq_getElem?_getD, List.getD_eq_getElem?_getD, List.getElem?_append_left hk]
theorem lst_nth_right {xs ys : List (List A)} {k : Nat} : nthL (xs ++ ys) (xs.length + k) = nthL ys k := by
  rw [nthL_get, nthL_get, List.getD_eq_getElem?_getD, List.getD_eq_getElem?_getD, List.getElem?_append_right (by omega)]
  congr 2
  omega
theorem ty_nth_left {c : TC} {l l' : List (U c)} {k : Nat} (hk : k < l.length) : (Els.ty c (l ++ l')).nth k = (Els.ty c l).nth k := by
  show enc c _ = enc c _
  rw [List.getD_eq_getElem?_getD, List.getD_eq_getElem?_getD, List.getElem?_append_left hk]
theorem ty_nth_right {c : TC} {l l' : List (U c)} {k : Nat} : (Els.ty c (l ++ l')).nth (l.length + k) = (Els.ty c l').nth k := by
  show enc c _ = enc c _
  rw [List.getD_eq_getElem?_getD, List.getD_eq_getElem?_getD, List.getElem?_append_right (by omega)]
  congr 3
  omega
theorem catEls_ok {e1 e2 els : Els} {ps : List Prop} {zs us : List Value} (he : catEls e1 e2 = some (els, ps)) (hp : ∀ p ∈ ps, p) (h1 : RowHL F N nx R e1 size zs) (h2 : RowHL F N nx R e2 size us) : els.n = e1.n + e2.n ∧ RowHL F N nx R els size (zs ++ us) := by
  unfold catEls at he
  split at he
  · rename_i xs ys
    cases he
    have hn : (Els.lst (xs ++ ys)).n = (Els.lst xs).n + (Els.lst ys).n := by simp [Els.n]
    exact ⟨hn, h1.cat h2 hn (fun k hk => lst_nth_left hk) fun k _ => lst_nth_right⟩
  · rename_i c l
    split at he <;> first | (cases he; done) | skip
    rename_i l' qs hl
    cases he
    have h3 := h2.ty hl hp
    have hn : (Els.ty c (l ++ l')).n = (Els.ty c l).n + (Els.ty c l').n := by simp [Els.n]
    have he2 : (Els.ty c l').n = e2.n := (elsTy_ok (F := F) (N := N) (nx := nx) (R := R) hl hp).1
    exact ⟨by rw [hn, he2], h1.cat h3 hn (fun k hk => ty_nth_left hk) fun k _ => ty_nth_right⟩
  · rename_i xs c l
    split at he <;> first | (cases he; done) | skip
    rename_i l' qs hl
    cases he
    have h3 : RowHL F N nx R (.ty c l') size zs := h1.ty (els := .lst xs) hl hp
    have hn : (Els.ty c (l' ++ l)).n = (Els.ty c l').n + (Els.ty c l).n := by simp [Els.n]
    have he2 : (Els.ty c l').n = (Els.lst xs).n := (decs_ok (F := F) (N := N) (nx := nx) (R := R) hl hp).1
    exact ⟨by rw [hn, he2], h3.cat h2 hn (fun k hk => ty_nth_left hk) fun k _ => ty_nth_right⟩
theorem norm_ok {tc : Option TC} {els els' : Els} {ps : List Prop} {zs : List Value} (he : els.norm tc = (els', ps)) (hp : ∀ p ∈ ps, p) (h : RowHL F N nx R els size zs) : els'.n = els.n ∧ RowHL F N nx R els' size zs := by
  unfold Els.norm at he
  split at he
  · split at he
    · split at he
      · rename_i l qs hl
        cases he
        exact ⟨(decs_ok (F := F) (N := N) (nx := nx) (R := R) hl hp).1, h.ty (els := .lst _) hl hp⟩
      · cases he; exact ⟨rfl, h⟩
    · cases he; exact ⟨rfl, h⟩
  · cases he; exact ⟨rfl, h⟩
theorem sub_n {lo n : Nat} {els : Els} (h : lo + n ≤ els.n) : (subEls lo n els).n = n := by
  cases els <;> simp only [subEls, Els.n, List.length_take, List.length_drop] at h ⊢ <;> omega
theorem sub_nth {lo n k : Nat} {els : Els} (hk : k < n) : (subEls lo n els).nth k = els.nth (lo + k) := by
  cases els with
  | lst cs =>
    show nthL _ k = nthL _ _
    rw [nthL_get, nthL_get, List.getD_eq_getElem?_getD, List.getD_eq_getElem?_getD, List.getElem?_take, if_pos hk, List.getElem?_drop]
  | ty c l =>
    show enc c _ = enc c _
    rw [List.getD_eq_getElem?_getD, List.getD_eq_getElem?_getD, List.getElem?_take, if_pos hk, List.getElem?_drop]
theorem RowHL.sub {lo n : Nat} {els : Els} {zs : List Value} (h : RowHL F N nx R els size zs) (hle : lo + n ≤ els.n) : RowHL F N nx R (subEls lo n els) size ((zs.drop (lo * size)).take (n * size)) := by
  have hz : (lo + n) * size ≤ zs.length := by rw [h.1]; exact Nat.mul_le_mul_right _ hle
  rw [Nat.add_mul] at hz
  refine ⟨by rw [sub_n hle, List.length_take, List.length_drop]; omega, fun k hk => ?_⟩
  rw [sub_n hle] at hk
  rw [sub_nth hk]
  have := h.2 (lo + k) (by omega)
  have hk2 : k * size + size ≤ n * size := by rw [← Nat.succ_mul]; exact Nat.mul_le_mul_right _ hk
  rw [List.drop_take, List.take_take, List.drop_drop, ← Nat.add_mul, Nat.min_eq_left (by omega)]
  exact this
theorem enc_one (o : Objs) (c : TC) (d : U c) : oneA (enc c d) = true ∧ sqOk o (enc c d) = true := by cases c <;> exact ⟨rfl, rfl⟩
theorem oneEls_nth {els : Els} (h : oneEls o els = true) {k : Nat} (hk : k < els.n) : oneA (els.nth k) = true ∧ sqOk o (els.nth k) = true := by
  cases els with
  | lst cs =>
    have hk' : k < cs.length := hk
    have hm : cs[k] ∈ cs := List.getElem_mem hk'
    have := (List.all_eq_true.1 h) _ hm
    have e : (Els.lst cs).nth k = cs[k] := by
      show nthL cs k = _
      rw [nthL_get, List.getD_eq_getElem?_getD, List.getElem?_eq_getElem hk']
      rfl
    rw [e]
    simpa using this
  | ty c l => exact enc_one o c _
theorem RowHL.one {els : Els} {zs : List Value} (hh : HRel F N nx o R) (h : RowHL F N nx R els size zs) (ho : oneEls o els = true) (hs : 0 < size) : ∀ u ∈ zs, u.oneCell' = true := fun u hu => by
  obtain ⟨m, hm, rfl⟩ := List.getElem_of_mem hu
  have hlt : m / size < els.n := (Nat.div_lt_iff_lt_mul hs).2 (by rw [← h.1]; exact hm)
  obtain ⟨h1, h2⟩ := oneEls_nth ho hlt
  refine one_list hh h1 h2 (h.2 (m / size) hlt) _ ?_
  have e : ((zs.drop (m / size * size)).take size)[m % size]? = some zs[m] := by
    rw [List.getElem?_take, if_pos (Nat.mod_lt _ hs), List.getElem?_drop]
    have : m / size * size + m % size = m := by rw [Nat.mul_comm]; exact Nat.div_add_mod m size
    rw [this]
    exact List.getElem?_eq_getElem hm
  exact List.mem_of_getElem? e
end

/-- A slice whose cells are known. -/
structure FlatR (R : World) (v : Value) (size n : Nat) (zs : List Value) : Prop where
  len : zs.length = n * size
  val : ∃ A c, v = .slice A n c ∧ n ≤ c
  cells : ∀ A m c, v = .slice A m c → 0 < n → ∃ ad, A = some ad ∧ ∀ j u, zs[j]? = some u → R.cell? (ad.add j) = some u
/-- The elements of a slice. -/
def srcE (o : Objs) (sz : Nat) : A → Option (Els × List Prop)
  | .sq j => match lookO j o with
    | some (.arr _ size els) => bif Nat.beq size sz then (bif oneEls o els then some (els, []) else none) else none
    | _ => none
  | .vw j z lo n _ => match lookO j o with
    | some (.arr _ size els) => bif Nat.beq z sz then (bif Nat.beq size sz then (bif oneEls o els then some (subEls lo n els, [lo + n ≤ els.n]) else none) else none) else none
    | _ => none
  | .sl c l => bif Nat.beq (size c) sz then some (.ty c l, []) else none
  | .nl => some (.lst [], [])
  | .v x => bif isNilV x then some (.lst [], []) else none
  | _ => none
section
variable {F : Nat → Prop} {N : Nm} {nx : Nat} {R : World} {o : Objs}
theorem flat_own {e : TypeId} {size n : Nat} {v : Value} {zs : List Value} (h : OwnR R e size v n zs) : FlatR R v size n zs := by
  obtain ⟨a, c, h1, h2⟩ := h.form
  refine ⟨h.1, ⟨a, c, h1, h2⟩, fun A m c' e hn => ?_⟩
  obtain ⟨g, c2, q1, _, _, _, q5⟩ := row_place h hn
  rw [q1] at e
  cases e
  exact ⟨_, rfl, fun j u hu => by rw [add_mk, Nat.zero_add]; exact q5 j u hu⟩
/-- The cells of frozen data. -/
theorem sl_row {c : TC} {l : List (U c)} {y : Value} (h : Hv F N nx R (.sl c l) y) : ∃ zs, FlatR R y (size c) l.length zs ∧ RowHL F N nx R (.ty c l) (size c) zs := by
  obtain ⟨a, cap, rfl, h1, h2⟩ := h.sl_inv
  by_cases hn : 0 < l.length
  · obtain ⟨ad, rfl, _, h3⟩ := h2 hn
    have cell : ∀ m, m < l.length * size c → ∃ y, R.cell? (ad.add m) = some y := fun m hm => by
      have hs : 0 < size c := by
        rcases Nat.eq_zero_or_pos (size c) with h0 | h0
        · rw [h0] at hm; simp at hm
        · exact h0
      have hlt : m / size c < l.length := (Nat.div_lt_iff_lt_mul hs).2 hm
      have hj : m % size c < (enc c l[m / size c]).length := by rw [enc_length]; exact Nat.mod_lt _ hs
      obtain ⟨y, hy, _⟩ := h3 _ _ (List.getElem?_eq_getElem hlt) (m % size c) _ (List.getElem?_eq_getElem hj)
      rw [add_add] at hy
      have : m / size c * size c + m % size c = m := by rw [Nat.mul_comm]; exact Nat.div_add_mod m (size c)
      rw [this] at hy
      exact ⟨y, hy⟩
    let zs := (List.range (l.length * size c)).map fun m => (R.cell? (ad.add m)).getD undef
    have hz : ∀ m u, zs[m]? = some u → R.cell? (ad.add m) = some u := fun m u hu => by
      have hm : m < l.length * size c := by
        have := (List.getElem?_eq_some_iff.1 hu).1
        simpa [zs] using this
      obtain ⟨y, hy⟩ := cell m hm
      have e : zs[m]? = some ((R.cell? (ad.add m)).getD undef) := by simp [zs, hm]
      rw [e, hy] at hu
      rw [hy]
      exact hu
    have hlen : zs.length = l.length * size c := by simp [zs]
    refine ⟨zs, ⟨hlen, ⟨_, cap, rfl, h1⟩, fun A m c' e _ => ?_⟩, hlen, fun k hk => ?_⟩
    · cases e
      exact ⟨ad, rfl, hz⟩
    · have hk' : k < l.length := hk
      have hd : l[k]? = some (l.getD k (dflt c)) := by rw [List.getD_eq_getElem?_getD, List.getElem?_eq_getElem hk']; rfl
      have hle : k * size c + size c ≤ zs.length := by rw [hlen, ← Nat.succ_mul]; exact Nat.mul_le_mul_right _ hk'
      have hl2 : ((zs.drop (k * size c)).take (size c)).length = (enc c (l.getD k (dflt c))).length := by
        rw [enc_length, List.length_take, List.length_drop]
        omega
      refine HL.of hl2 fun j x v hx hv => ?_
      obtain ⟨y, hy, hyv⟩ := h3 k _ hd j x hx
      have := hz _ _ (slice_get hv)
      rw [add_add] at hy
      rw [hy] at this
      cases this
      exact hyv
  · have h0 : l = [] := List.eq_nil_of_length_eq_zero (by omega)
    subst h0
    exact ⟨[], ⟨by simp, ⟨a, cap, rfl, Nat.zero_le _⟩, fun A m c' e hn => absurd hn (Nat.lt_irrefl _)⟩, by simp [Els.n], fun k hk => by cases hk⟩
theorem srcE_ok (hh : HRel F N nx o R) {sz : Nat} {x : A} {y : Value} {els : Els} {ps : List Prop} (he : srcE o sz x = some (els, ps)) (hp : ∀ p ∈ ps, p) (hx : Hv F N nx R x y) (hs : 0 < sz) :
    ∃ zs, FlatR R y sz els.n zs ∧ RowHL F N nx R els sz zs ∧ ∀ u ∈ zs, u.oneCell' = true := by
  unfold srcE at he
  split at he <;> first | (cases he; done) | skip
  · rename_i j
    split at he <;> first | (cases he; done) | skip
    rename_i e size els' hl
    cases hb : Nat.beq size sz with
    | false => rw [hb] at he; cases he
    | true =>
      cases ho : oneEls o els' with
      | false => rw [hb, ho] at he; cases he
      | true =>
        rw [hb, ho] at he
        cases he
        obtain rfl := Nat.eq_of_beq_eq_true hb
        obtain ⟨_, zs, g1, g2⟩ := hh.ob j _ hl
        have hr : RowHL F N nx R els size zs := ⟨g1.1, g2⟩
        rw [hx.sq_inv.2]
        exact ⟨zs, flat_own g1, hr, hr.one hh ho hs⟩
  · rename_i j z lo n f
    split at he <;> first | (cases he; done) | skip
    rename_i e size els' hl
    cases hb0 : Nat.beq z sz with
    | false => rw [hb0] at he; cases he
    | true =>
    cases hb : Nat.beq size sz with
    | false => rw [hb0, hb] at he; cases he
    | true =>
      cases ho : oneEls o els' with
      | false => rw [hb0, hb, ho] at he; cases he
      | true =>
        rw [hb0, hb, ho] at he
        cases he
        obtain rfl := Nat.eq_of_beq_eq_true hb
        obtain rfl := Nat.eq_of_beq_eq_true hb0
        have hle : lo + n ≤ els'.n := hp _ (List.mem_singleton.2 rfl)
        obtain ⟨_, zs, g1, g2⟩ := hh.ob j _ hl
        have hr : RowHL F N nx R els' z zs := ⟨g1.1, g2⟩
        have hr2 := hr.sub hle
        refine ⟨_, ⟨hr2.1, ?_, fun A m c e hn => ?_⟩, hr2, fun u hu => hr.one hh ho hs u (List.mem_of_mem_drop (List.mem_of_mem_take hu))⟩
        · obtain ⟨_, a, c, e1, e2, _⟩ := hx.vw_inv
          rw [sub_n hle]
          exact ⟨a, c, e1, e2⟩
        · rw [sub_n hle] at hn
          obtain ⟨_, a, c', e1, e2, _, e4⟩ := hx.vw_inv
          rw [e1] at e
          cases e
          refine ⟨_, e4 hn, fun i u hu => ?_⟩
          obtain ⟨g, c2, q1, _, q3, _, q5⟩ := row_place g1 (by omega)
          rw [q3, add_mk, add_mk, Nat.zero_add]
          rw [List.getElem?_take] at hu
          split at hu <;> first | (cases hu; done) | skip
          rw [List.getElem?_drop] at hu
          exact q5 _ u hu
  · rename_i c l
    cases hb : Nat.beq (size c) sz with
    | false => rw [hb] at he; cases he
    | true =>
      rw [hb] at he
      cases he
      obtain rfl := Nat.eq_of_beq_eq_true hb
      obtain ⟨zs, g1, g2⟩ := sl_row hx
      exact ⟨zs, g1, g2, g2.one hh rfl hs⟩
  · cases he
    obtain ⟨a, rfl⟩ := hx.nl_inv
    exact ⟨[], ⟨by simp [Els.n], ⟨a, 0, rfl, Nat.le_refl _⟩, fun A m c e hn => absurd hn (Nat.lt_irrefl _)⟩, .nil, fun u hu => by cases hu⟩
  · rename_i x
    cases hb : isNilV x with
    | false => rw [hb] at he; cases he
    | true =>
      rw [hb] at he
      cases he
      rw [hx.v_inv, isNilV_ok hb]
      exact ⟨[], ⟨by simp [Els.n], ⟨none, 0, rfl, Nat.le_refl _⟩, fun A m c e hn => absurd hn (Nat.lt_irrefl _)⟩, .nil, fun u hu => by cases hu⟩
end
end Go.Proofs.Yteebobbhhgmeiaa
