/- A symbolic run over typed data, part X: what is read in memory is typed data. -/
import Derived.Test.YteebobbhhgmeiaaTV
import Derived.ChangeArms
import Derived.OpenShut
import Derived.ChangeShapes
namespace Go.Proofs.Yteebobbhhgmeiaa
open Go.RowKit

def wfInt (k : IntKind) (n : Int) : Prop := (Lit.int k n).wf = true
def WfS (x : TStamp) : Prop := wfInt .i64 x.n ∧ wfInt .i64 x.site
def WfV (x : TVec) : Prop := wfInt .i64 x.a ∧ wfInt .i64 x.b
def WfCell (x : TCell) : Prop := WfS x.stamp ∧ WfV x.vec ∧ True ∧ x.value.size ≤ maxLen ∧ WfV x.dead
def WfRow (x : TRow) : Prop := x.key.size ≤ maxLen ∧ (x.cells.length ≤ maxLen ∧ ∀ y ∈ x.cells, WfCell y)
def WfWrite (x : TWrite) : Prop := x.key.size ≤ maxLen ∧ wfInt .i64 x.group ∧ True ∧ x.value.size ≤ maxLen
def WfField (x : TField) : Prop := wfInt .i64 x.group ∧ x.value.size ≤ maxLen
/-- What is known of data that were read. -/
def Wfd : (c : TC) → U c → Prop
  | .i64, n => wfInt .i64 n
  | .u32, n => wfInt .u32 n
  | .str, s => s.size ≤ maxLen
  | .vec, x => WfV x
  | .stamp, x => WfS x
  | .cell, x => WfCell x
  | .group, x => x.name.size ≤ maxLen ∧ wfInt .i64 x.policy
  | .write, x => WfWrite x
  | .row, x => WfRow x
  | .change, x => wfInt .i64 x.site ∧ wfInt .i64 x.seq ∧ WfS x.stamp ∧ WfV x.vec ∧ (x.writes.length ≤ maxLen ∧ ∀ y ∈ x.writes, WfWrite y)
  | .field, x => WfField x
  | .view, x => x.key.size ≤ maxLen ∧ (x.fields.length ≤ maxLen ∧ ∀ y ∈ x.fields, WfField y)
  | .told, x => wfInt .i64 x.ack ∧ wfInt .i64 x.own ∧ wfInt .i64 x.come
  | .act, x => wfInt .i64 x.kind ∧ WfRow x.row ∧ x.til.size ≤ maxLen ∧ wfInt .i64 x.n
  | .front, x => wfInt .i64 x.site ∧ wfInt .i64 x.acked ∧ wfInt .i64 x.stable ∧ wfInt .i64 x.wait ∧ wfInt .i64 x.til
  | .ask, x => WfS x.stamp ∧ WfV x.vec ∧ True ∧ x.value.size ≤ maxLen
  | .two, x => WfRow x.row ∧ wfInt .i64 x.group ∧ WfCell x.cell
  | .note, x => x.name.size ≤ maxLen ∧ x.text.size ≤ maxLen
  | .packet, x => wfInt .i64 x.src ∧ x.bytes.size ≤ maxLen
  | .place, x => x.key.size ≤ maxLen ∧ wfInt .i64 x.group
  | .bytes, l => l.length ≤ maxLen ∧ ∀ y ∈ l, True
  | .ints, l => l.length ≤ maxLen ∧ ∀ y ∈ l, wfInt .i64 y
  | .cells, l => l.length ≤ maxLen ∧ ∀ y ∈ l, WfCell y
  | .rows, l => l.length ≤ maxLen ∧ ∀ y ∈ l, WfRow y
  | _, _ => True

def FB (w : World) (F : Nat → Prop) : Prop := ∀ b, b < w.heap.size → F b
/-- What is read at type t is a datum of kind c. -/
def OpnAt (P : Program) (c : TC) (t : TypeId) {H : Type} (en : TypeId × Value → H) (w : World) (base : Nat) (spare : Nat → Bool) (held : Bool) : Prop :=
  ∀ (m : Nat) (cs : List Value) (y : DataW H × List MemPlace), DataW.trod en P w base spare held m t cs = some y → ∃ x : U c, Wfd c x ∧ ∀ (F : Nat → Prop) (N : Nm) (nx : Nat), FB w F → HL F N nx w (enc c x) cs
def Opn (P : Program) (c : TC) (t : TypeId) : Prop := ∀ {H : Type} (en : TypeId × Value → H) (w : World) (base : Nat) (spare : Nat → Bool) (held : Bool), OpnAt P c t en w base spare held
def OpnLs (P : Program) (c : TC) (t : TypeId) : Prop := ∀ {H : Type} (en : TypeId × Value → H) (w : World) (base : Nat) (spare : Nat → Bool) (held : Bool) (m : Nat) (cs : List Value) (y : DataW H × List MemPlace),
  DataW.trod en P w base spare held m t cs = some y → ∃ l : List (U c), (l.length ≤ maxLen ∧ ∀ x ∈ l, Wfd c x) ∧ ∀ (F : Nat → Prop) (N : Nm) (nx : Nat), FB w F → HL F N nx w [.sl c l] cs
section
variable {P : Program} {t : TypeId}
theorem opn_i64 (hu : P.underlying t = some (.int .i64)) : Opn P .i64 t := fun en w base spare held m cs y h => by
  obtain ⟨n, rfl, _, hw⟩ := DataW.trod_int hu h
  exact ⟨n, hw, fun F N nx _ => HL.cons (Hv.v _) HL.nil⟩
theorem opn_u32 (hu : P.underlying t = some (.int .u32)) : Opn P .u32 t := fun en w base spare held m cs y h => by
  obtain ⟨n, rfl, _, hw⟩ := DataW.trod_int hu h
  exact ⟨n, hw, fun F N nx _ => HL.cons (Hv.v _) HL.nil⟩
theorem opn_u8 (hu : P.underlying t = some (.int .u8)) : Opn P .u8 t := fun en w base spare held m cs y h => by
  obtain ⟨n, rfl, _, hw⟩ := DataW.trod_int hu h
  refine ⟨UInt8.ofNat n.toNat, trivial, fun F N nx _ => ?_⟩
  have hn : 0 ≤ n ∧ n < 256 := by
    simp [Lit.wf, IntKind.min, IntKind.max, IntKind.signed, IntKind.bits] at hw
    omega
  have e : byteV (UInt8.ofNat n.toNat) = .int .u8 n := by
    unfold byteV
    have : ((UInt8.ofNat n.toNat).toNat : Int) = n := by
      rw [UInt8.toNat_ofNat']
      omega
    rw [this]
  exact HL.cons (by rw [e]; exact Hv.v _) HL.nil
theorem opn_bool (hu : P.underlying t = some .bool) : Opn P .bool t := fun en w base spare held m cs y h => by
  obtain ⟨n, rfl, _⟩ := DataW.trod_bool hu h
  exact ⟨n, trivial, fun F N nx _ => HL.cons (Hv.v _) HL.nil⟩
theorem opn_str (hu : P.underlying t = some .string) : Opn P .str t := fun en w base spare held m cs y h => by
  obtain ⟨n, rfl, _, hw⟩ := DataW.trod_string hu h
  exact ⟨n, hw, fun F N nx _ => HL.cons (Hv.v _) HL.nil⟩
theorem list_of {α : Type} {Q : Nat → α → Prop} : ∀ (n : Nat), (∀ i, i < n → ∃ x, Q i x) → ∃ l : List α, l.length = n ∧ ∀ (i : Nat) (x : α), l[i]? = some x → Q i x
  | 0, _ => ⟨[], rfl, fun i x h => by cases h⟩
  | n + 1, h => by
    obtain ⟨l, h1, h2⟩ := list_of n fun i hi => h i (by omega)
    obtain ⟨x, hx⟩ := h n (by omega)
    refine ⟨l ++ [x], by simp [h1], fun i y hy => ?_⟩
    rcases Nat.lt_trichotomy i n with hi | rfl | hi
    · rw [List.getElem?_append_left (by omega)] at hy
      exact h2 i y hy
    · rw [List.getElem?_append_right (by omega)] at hy
      simp [h1] at hy
      subst hy
      exact hx
    · rw [List.getElem?_eq_none (by simp; omega)] at hy
      cases hy
theorem cells_get {w : World} {base : Nat} {a : Addr} {n : Nat} {cs : List Value} (h : w.cells? base a n = some cs) : base ≤ a.block ∧ cs.length = n ∧ ∀ (j : Nat) (v : Value), cs[j]? = some v → w.cell? (a.add j) = some v := by
  unfold World.cells? at h
  split at h
  · rename_i hb
    refine ⟨hb, by simpa using mapM_some_length h, fun j v hv => ?_⟩
    have hl : cs.length = n := by simpa using mapM_some_length h
    have hj : j < n := by
      have := (List.getElem?_eq_some_iff.1 hv).1
      omega
    have := mapM_some_get h j j (by simp [hj])
    rw [this, hv]
  · cases h
theorem opn_list {c : TC} {e : TypeId} (hu : P.underlying t = some (.slice e)) (hs : P.cellsOf e = size c) (he : Opn P c e) : OpnLs P c t := fun en w base spare held m cs y h => by
  rcases DataW.trod_slice hu h with ⟨rfl, _⟩ | ⟨a, len, cap, elems, rest, n, _, rfl, _, hb, hlc, hcm, hel, hg, _⟩
  · exact ⟨[], ⟨Nat.zero_le _, fun x hx => by cases hx⟩, fun F N nx _ => HL.cons (Hv.sl_nil (a := none) rfl) HL.nil⟩
  · have each : ∀ i, i < len → ∃ x : U c, Wfd c x ∧ ∃ zs, w.cells? base (a.add (i * size c)) (size c) = some zs ∧ ∀ (F : Nat → Prop) (N : Nm) (nx : Nat), FB w F → HL F N nx w (enc c x) zs := fun i hi => by
      have := hg i hi
      rw [hs] at this
      have h2 : elems[i]? ≠ none := by
        intro h0
        rw [List.getElem?_eq_none_iff] at h0
        omega
      obtain ⟨z, hz⟩ := Option.ne_none_iff_exists'.1 h2
      rw [hz] at this
      obtain ⟨zs, h3, h4⟩ := Option.bind_eq_some_iff.1 this
      obtain ⟨x, h5, h6⟩ := he en w base spare held n zs z h4
      exact ⟨x, h5, zs, h3, h6⟩
    obtain ⟨l, h1, h2⟩ := list_of len each
    refine ⟨l, ⟨by omega, fun x hx => ?_⟩, fun F N nx hF => HL.cons ?_ HL.nil⟩
    · obtain ⟨i, hi⟩ := List.getElem?_of_mem hx
      exact (h2 i x hi).1
    · subst h1
      refine Hv.sl a hlc (fun hp => ⟨rfl, ?_⟩) (fun i d j x hd hx => ?_) (fun i d j x y hd hx hy => ?_)
      · obtain ⟨_, zs, h3, h4⟩ := h2 0 l[0] (by rw [List.getElem?_eq_getElem hp])
        obtain ⟨_, h5, h6⟩ := cells_get h3
        have hsz : 0 < zs.length := by rw [h5]; cases c <;> decide
        have := h6 0 zs[0] (by rw [List.getElem?_eq_getElem hsz])
        have := World.block_lt_of_cell? w _ this
        rw [add_block, add_block] at this
        exact hF _ this
      · obtain ⟨_, zs, h3, h4⟩ := h2 i d hd
        obtain ⟨v, h5, h6⟩ := (h4 F N nx hF).get hx
        refine ⟨v, ?_⟩
        rw [← add_add]
        exact (cells_get h3).2.2 j v h5
      · obtain ⟨_, zs, h3, h4⟩ := h2 i d hd
        obtain ⟨v, h5, h6⟩ := (h4 F N nx hF).get hx
        have := (cells_get h3).2.2 j v h5
        rw [add_add, hy] at this
        cases this
        exact h6
end
section
variable {H : Type} {en : TypeId × Value → H} {P : Program} {w : World} {base : Nat} {spare : Nat → Bool} {held : Bool} {F : Nat → Prop} {N : Nm} {nx : Nat}
theorem fldO {fs : Array Field} {cs : List Value} {m i : Nat} {xs : List (DataW H × List MemPlace)} {f : Field} {t : TypeId} {o k : Nat} {c : TC} (ho : Opn P c t) (hf : fs[i]? = some f) (ht : f.type = t) (hof : f.offset = o) (hk : P.cellsOf t = k) (hi : i < xs.length)
    (g : ∀ (i : Nat) (f : Field), fs[i]? = some f → DataW.trod en P w base spare held m f.type ((cs.drop f.offset).take (P.cellsOf f.type)) = xs[i]?) : ∃ x : U c, Wfd c x ∧ ∀ (F : Nat → Prop) (N : Nm) (nx : Nat), FB w F → HL F N nx w (enc c x) ((cs.drop o).take k) := by
  subst ht hof hk
  have := g i f hf
  rw [List.getElem?_eq_getElem hi] at this
  exact ho en w base spare held m _ _ this
theorem fldL {fs : Array Field} {cs : List Value} {m i : Nat} {xs : List (DataW H × List MemPlace)} {f : Field} {t : TypeId} {o k : Nat} {c : TC} (ho : OpnLs P c t) (hf : fs[i]? = some f) (ht : f.type = t) (hof : f.offset = o) (hk : P.cellsOf t = k) (hi : i < xs.length)
    (g : ∀ (i : Nat) (f : Field), fs[i]? = some f → DataW.trod en P w base spare held m f.type ((cs.drop f.offset).take (P.cellsOf f.type)) = xs[i]?) : ∃ l : List (U c), (l.length ≤ maxLen ∧ ∀ x ∈ l, Wfd c x) ∧ ∀ (F : Nat → Prop) (N : Nm) (nx : Nat), FB w F → HL F N nx w [.sl c l] ((cs.drop o).take k) := by
  subst ht hof hk
  have := g i f hf
  rw [List.getElem?_eq_getElem hi] at this
  exact ho en w base spare held m _ _ this
theorem arrO {cs : List Value} {m i n : Nat} {xs : List (DataW H × List MemPlace)} {t : TypeId} {k : Nat} {c : TC} (ho : Opn P c t) (hk : P.cellsOf t = k) (hx : i < xs.length) (hn : i < n)
    (g : ∀ (i : Nat), i < n → DataW.trod en P w base spare held m t ((cs.drop (i * P.cellsOf t)).take (P.cellsOf t)) = xs[i]?) : ∃ x : U c, Wfd c x ∧ ∀ (F : Nat → Prop) (N : Nm) (nx : Nat), FB w F → HL F N nx w (enc c x) ((cs.drop (i * k)).take k) := by
  subst hk
  have := g i hn
  rw [List.getElem?_eq_getElem hx] at this
  exact ho en w base spare held m _ _ this
theorem HLd {o k : Nat} {cs : List Value} {l r : List A} (h : HL F N nx w l ((cs.drop o).take k)) (h' : HL F N nx w r (cs.drop (o + k))) : HL F N nx w (l ++ r) (cs.drop o) := by
  have e : cs.drop o = (cs.drop o).take k ++ cs.drop (o + k) := by
    rw [← List.drop_drop, List.take_append_drop]
  rw [e]
  exact h.append h'
theorem HLe {o : Nat} {cs : List Value} (h : cs.length = o) : HL F N nx w [] (cs.drop o) := by
  rw [List.drop_eq_nil_of_le (by omega)]
  exact HL.nil
end
end Go.Proofs.Yteebobbhhgmeiaa
