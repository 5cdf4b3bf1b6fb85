/- A symbolic run with sequences: operations that bring new sequences. -/
import Derived.Test.YteebobbhhgmeiaaSyF
namespace Go.Proofs.Yteebobbhhgmeiaa
open Go.RowKit

/-- The own block of a sequence that is given up. -/
def Dropped (N : Nm) (s : St) (drop : Option Nat) (g : Nat) : Prop := ∃ k q, drop = some k ∧ s.seq k = some q ∧ q.own = true ∧ blkOf (N.q k) = some g

structure MoreOk (base : Nat) (N : Nm) (s : St) (R : World) (news : List Sq) (drop : Option Nat) (R' : World) (v : Nat → Value) (z : Nat → List Value) : Prop where
  os : R'.os = R.os
  tape : R'.tape = R.tape
  output : R'.output = R.output
  size : R.heap.size ≤ R'.heap.size
  stay : ∀ g, g < R.heap.size → ¬ Dropped N s drop g → R'.heap[g]? = R.heap[g]?
  seq : ∀ j q, news[j]? = some q → SeqR base R' (v j) (z j) q
  new : ∀ j q g, news[j]? = some q → Touch (v j) (z j) q g → R.heap.size ≤ g ∨ Dropped N s drop g
  sep : ∀ j q g, news[j]? = some q → q.own = true → blkOf (v j) = some g → (∀ j' q', j' ≠ j → news[j']? = some q' → ¬ Touch (v j') (z j') q' g) ∧ (∀ K i v', q.kid = some K → i < q.n → (z j)[i * q.size + K.at_]? = some v' → 0 < K.n i → blkOf v' ≠ some g)

/-- What the run of such an operation is. -/
def MoreRun (P : Program) (base : Nat) (N : Nm) (s : St) (R : World) (x : AV) (news : List Sq) (drop : Option Nat) : Result Next → Prop
  | .ok (.value y) R' => ∃ v z, y = conc ⟨N.b, v, z⟩ x ∧ MoreOk base N s R news drop R' v z
  | .ok (.enter f args) R1 => R1 = R ∧ Calls P f args R fun e R' => ∃ v z, e = .returned (conc ⟨N.b, v, z⟩ x) ∧ MoreOk base N s R news drop R' v z
  | _ => False

theorem wp_more {P : Program} {base : Nat} {N : Nm} {s : St} {o : Oper} {a : Act} {R : World} {x : AV} {news : List Sq} {drop : Option Nat} {K : Act → World → Prop} {Q : Exit → Act → World → Prop} (h : MoreRun P base N s R x news drop ((execOp a.eval o).run P R))
    (hk : ∀ v z R', MoreOk base N s R news drop R' v z → K (a.put o.dst (conc ⟨N.b, v, z⟩ x)) R') : o.wp P a R K Q := by
  unfold Oper.wp
  generalize (execOp a.eval o).run P R = r at *
  cases r with
  | halt x w => exact h.elim
  | ok n w =>
    cases n <;> simp only [MoreRun] at h <;> simp only [Oper.upon]
    case value u =>
      obtain ⟨v, z, e1, h2⟩ := h
      rw [e1]
      exact hk _ _ _ h2
    case enter f args =>
      obtain ⟨e1, hc⟩ := h
      rw [e1]
      exact hc.mono fun e w'' ⟨v, z, he, h2⟩ => by subst he; exact hk _ _ _ h2

/-! ### the state behind it -/
def dropS (s : St) : Option Nat → St
  | none => s
  | some k => s.dropSeq k
def addSeqs (s : St) (id : Nat) : List Sq → St
  | [] => s
  | q :: r => addSeqs (s.newSeq id q) (id + 1) r
def addN (N : Nm) (v : Nat → Value) (z : Nat → List Value) (id j : Nat) : List Sq → Nm
  | [] => N
  | _ :: r => addN (N.setQ id (v j) (z j)) v z (id + 1) (j + 1) r
def LV.shift (id : Nat) : LV → LV
  | .sq k => .sq (id + k)
  | x => x
def shiftL (id : Nat) : List LV → List LV
  | [] => []
  | x :: r => x.shift id :: shiftL id r
def TV.shift (id : Nat) : TV → TV
  | .one x => .one (x.shift id)
  | .agg xs => .agg (shiftL id xs)
def shiftT (id : Nat) : List TV → List TV
  | [] => []
  | x :: r => x.shift id :: shiftT id r
def AV.shift (id : Nat) : AV → AV
  | .sq k => .sq (id + k)
  | .el k o => .el (id + k) o
  | .agg xs => .agg (shiftL id xs)
  | .tup xs => .tup (shiftT id xs)
  | x => x
def LV.ltB (n : Nat) : LV → Bool
  | .sq k => Nat.blt k n
  | _ => true
def ltL (n : Nat) : List LV → Bool
  | [] => true
  | x :: r => bif x.ltB n then ltL n r else false
def TV.ltB (n : Nat) : TV → Bool
  | .one x => x.ltB n
  | .agg xs => ltL n xs
def ltT (n : Nat) : List TV → Bool
  | [] => true
  | x :: r => bif x.ltB n then ltT n r else false
/-- A result over n new sequences, and nothing else of the state. -/
def AV.ltB (n : Nat) : AV → Bool
  | .v _ => true
  | .sq k => Nat.blt k n
  | .agg xs => ltL n xs
  | .tup xs => ltT n xs
  | _ => false

section
variable {N' : Nm} {b : Nat → Nat} {v : Nat → Value} {z : Nat → List Value} {id n : Nat} (hq : ∀ k, k < n → N'.q (id + k) = v k)
include hq
theorem shiftL_conc1 {x : LV} (h : x.ltB n = true) : concL N' (x.shift id) = concL ⟨b, v, z⟩ x := by
  cases x with
  | v y => rfl
  | dead => rfl
  | sq k => exact hq k (Nat.le_of_ble_eq_true h)
theorem shiftL_conc : ∀ {xs : List LV}, ltL n xs = true → (shiftL id xs).map (concL N') = xs.map (concL ⟨b, v, z⟩)
  | [], _ => rfl
  | x :: r, h => by
    unfold ltL at h
    cases hx : x.ltB n with
    | false => rw [hx] at h; cases h
    | true =>
      rw [hx] at h
      show concL N' (x.shift id) :: (shiftL id r).map (concL N') = _
      rw [shiftL_conc1 hq hx, shiftL_conc h]
      rfl
theorem shiftT_conc1 {x : TV} (h : x.ltB n = true) : concT N' (x.shift id) = concT ⟨b, v, z⟩ x := by
  cases x with
  | one x => exact shiftL_conc1 hq h
  | agg xs => show Value.agg _ = Value.agg _; rw [shiftL_conc hq h]
theorem shiftT_conc : ∀ {xs : List TV}, ltT n xs = true → (shiftT id xs).map (concT N') = xs.map (concT ⟨b, v, z⟩)
  | [], _ => rfl
  | x :: r, h => by
    unfold ltT at h
    cases hx : x.ltB n with
    | false => rw [hx] at h; cases h
    | true =>
      rw [hx] at h
      show concT N' (x.shift id) :: (shiftT id r).map (concT N') = _
      rw [shiftT_conc1 hq hx, shiftT_conc h]
      rfl
theorem shift_conc {x : AV} (h : x.ltB n = true) : conc N' (x.shift id) = conc ⟨b, v, z⟩ x := by
  cases x with
  | v y => rfl
  | sq k => exact hq k (Nat.le_of_ble_eq_true h)
  | agg xs => show Value.agg _ = Value.agg _; rw [shiftL_conc hq h]
  | tup xs => show Value.tuple _ = Value.tuple _; rw [shiftT_conc hq h]
  | own _ _ => cases h
  | ownx _ _ _ _ => cases h
  | osl _ _ _ => cases h
  | el _ _ => cases h
  | opt _ _ _ => cases h
  | dead => cases h
end
theorem shiftL_live (id : Nat) : ∀ xs : List LV, liveL (shiftL id xs) = liveL xs
  | [] => rfl
  | x :: r => by
    show (bif (x.shift id).live then liveL (shiftL id r) else false) = (bif x.live then liveL r else false)
    rw [shiftL_live id r]
    cases x <;> rfl
theorem shiftT_live (id : Nat) : ∀ xs : List TV, liveT (shiftT id xs) = liveT xs
  | [] => rfl
  | x :: r => by
    show (bif (x.shift id).live then liveT (shiftT id r) else false) = (bif x.live then liveT r else false)
    rw [shiftT_live id r]
    cases x with
    | one x => cases x <;> rfl
    | agg xs => show (bif liveL (shiftL id xs) then _ else _) = (bif liveL xs then _ else _); rw [shiftL_live]
theorem shift_simple (id : Nat) (x : AV) : (x.shift id).simple = x.simple := by
  cases x with
  | agg xs => exact shiftL_live id xs
  | tup xs => exact shiftT_live id xs
  | _ => rfl

theorem addN_b (v : Nat → Value) (z : Nat → List Value) : ∀ (l : List Sq) (N : Nm) (id j : Nat), (addN N v z id j l).b = N.b
  | [], _, _, _ => rfl
  | _ :: r, N, id, j => by
    show (addN (N.setQ id (v j) (z j)) v z (id + 1) (j + 1) r).b = N.b
    rw [addN_b v z r]
    rfl
theorem addN_out (v : Nat → Value) (z : Nat → List Value) : ∀ (l : List Sq) (N : Nm) (id j k : Nat), k < id → (addN N v z id j l).q k = N.q k
  | [], _, _, _, _, _ => rfl
  | _ :: r, N, id, j, k, hk => by
    show (addN (N.setQ id (v j) (z j)) v z (id + 1) (j + 1) r).q k = N.q k
    rw [addN_out v z r _ _ _ _ (by omega)]
    exact setF_ne N.q _ (by omega)
theorem addN_in (v : Nat → Value) (z : Nat → List Value) : ∀ (l : List Sq) (N : Nm) (id j k : Nat), k < l.length → (addN N v z id j l).q (id + k) = v (j + k)
  | [], _, _, _, _, h => by cases h
  | _ :: r, N, id, j, 0, _ => by
    show (addN (N.setQ id (v j) (z j)) v z (id + 1) (j + 1) r).q id = v j
    rw [addN_out v z r _ _ _ _ (by omega)]
    exact setF_same N.q id (v j)
  | _ :: r, N, id, j, k + 1, h => by
    show (addN (N.setQ id (v j) (z j)) v z (id + 1) (j + 1) r).q (id + (k + 1)) = v (j + (k + 1))
    have := addN_in v z r (N.setQ id (v j) (z j)) (id + 1) (j + 1) k (by simpa using h)
    rw [show id + 1 + k = id + (k + 1) by omega, show j + 1 + k = j + (k + 1) by omega] at this
    exact this

section
variable {w0 : World} {a : Act} {R R' : World}
theorem box_newSeq {s : St} {id : Nat} {q : Sq} {i : Nat} {x : TypeId × List LV} (h : (s.newSeq id q).box i = some x) : ∃ y, s.box i = some y := lookB_killBs' (b := s.b) h

theorem Rel.addSeqs {v : Nat → Value} {z : Nat → List Value} : ∀ {l : List Sq} {j0 id : Nat} {s : St} {N : Nm}, Rel w0 N s a R' →
    (∀ i q, l[i]? = some q → SeqR w0.heap.size R' (v (j0 + i)) (z (j0 + i)) q) →
    (∀ i q g, l[i]? = some q → Touch (v (j0 + i)) (z (j0 + i)) q g → (∀ b x, s.box b = some x → N.b b ≠ g) ∧ ∀ k' q', s.seq k' = some q' → q'.own = true → blkOf (N.q k') ≠ some g) →
    (∀ i q g, l[i]? = some q → q.own = true → blkOf (v (j0 + i)) = some g → ∀ k' q', s.seq k' = some q' → ¬ Touch (N.q k') (N.z k') q' g) →
    (∀ i q g, l[i]? = some q → q.own = true → blkOf (v (j0 + i)) = some g → (∀ i' q', i' ≠ i → l[i']? = some q' → ¬ Touch (v (j0 + i')) (z (j0 + i')) q' g) ∧ (∀ K m v', q.kid = some K → m < q.n → (z (j0 + i))[m * q.size + K.at_]? = some v' → 0 < K.n m → blkOf v' ≠ some g)) →
    Rel w0 (addN N v z id j0 l) (Go.Proofs.Yteebobbhhgmeiaa.addSeqs s id l) a R'
  | [], j0, id, s, N, h, _, _, _, _ => h
  | q0 :: r, j0, id, s, N, h, h1, h2, h3, h4 => by
    have hs : ∀ j, j ≠ id → (N.setQ id (v j0) (z j0)).q j = N.q j := fun j hj => setF_ne N.q _ hj
    have hz : ∀ j, j ≠ id → (N.setQ id (v j0) (z j0)).z j = N.z j := fun j hj => setF_ne N.z _ hj
    have hsk : (N.setQ id (v j0) (z j0)).q id = v j0 := setF_same N.q id _
    have hzk : (N.setQ id (v j0) (z j0)).z id = z j0 := setF_same N.z id _
    have hseq : ∀ j q', (s.newSeq id q0).seq j = some q' → (j = id ∧ q' = q0) ∨ (j ≠ id ∧ s.seq j = some q') := fun j q' hj => by
      have : lookQ j ((id, some q0) :: s.q) = some q' := hj
      rw [seq_cons] at this
      by_cases hjk : j = id
      · rw [if_pos hjk] at this; cases this; exact .inl ⟨hjk, rfl⟩
      · rw [if_neg hjk] at this; exact .inr ⟨hjk, this⟩
    have f1 := h1 0 q0 rfl
    have f2 := fun g => h2 0 q0 g rfl
    have f3 := fun ho g hg => h3 0 q0 g rfl ho hg
    have f4 := fun ho g hg => h4 0 q0 g rfl ho hg
    have hn := h.newSeq (k := id) f1 (fun g hg i x hi => (f2 g hg).1 i x hi) (fun ho g hg => ⟨fun k' q' _ hk' => f3 ho g hg k' q' hk', (f4 ho g hg).2⟩) (fun g hg k' q' _ hk' ho => (f2 g hg).2 k' q' hk' ho)
    refine Rel.addSeqs (l := r) (j0 := j0 + 1) hn (fun i q hq => ?_) (fun i q g hq ht => ⟨fun b x hb => ?_, fun k' q' hk' ho => ?_⟩) (fun i q g hq ho hg k' q' hk' => ?_) (fun i q g hq ho hg => ?_)
    · have := h1 (i + 1) q hq
      rwa [show j0 + (i + 1) = j0 + 1 + i by omega] at this
    · rw [show j0 + 1 + i = j0 + (i + 1) by omega] at ht
      obtain ⟨y, hy⟩ := box_newSeq hb
      exact (h2 (i + 1) q g hq ht).1 b y hy
    · rw [show j0 + 1 + i = j0 + (i + 1) by omega] at ht
      rcases hseq k' q' hk' with ⟨rfl, rfl⟩ | ⟨hne, hk⟩
      · rw [hsk]
        intro hb
        exact (f4 ho g hb).1 (i + 1) q (by omega) hq ht
      · rw [hs k' hne]
        exact (h2 (i + 1) q g hq ht).2 k' q' hk ho
    · rw [show j0 + 1 + i = j0 + (i + 1) by omega] at hg
      rcases hseq k' q' hk' with ⟨rfl, rfl⟩ | ⟨hne, hk⟩
      · rw [hsk, hzk]
        exact (h4 (i + 1) q g hq ho hg).1 0 q' (by omega) rfl
      · rw [hs k' hne, hz k' hne]
        exact h3 (i + 1) q g hq ho hg k' q' hk
    · rw [show j0 + 1 + i = j0 + (i + 1) by omega] at hg
      obtain ⟨g1, g2⟩ := h4 (i + 1) q g hq ho hg
      refine ⟨fun i' q' hne hq' => ?_, fun K m v' hK hm hv => ?_⟩
      · have := g1 (i' + 1) q' (by omega) hq'
        rwa [show j0 + (i' + 1) = j0 + 1 + i' by omega] at this
      · rw [show j0 + 1 + i = j0 + (i + 1) by omega] at hv
        exact g2 K m v' hK hm hv

/-- All that is still known is in another world as it was. -/
theorem Rel.stay {N : Nm} {s : St} (h : Rel w0 N s a R) (hz : R.heap.size ≤ R'.heap.size) (hB : ∀ i x, s.box i = some x → R'.heap[N.b i]? = R.heap[N.b i]?) (hS : ∀ k q g, s.seq k = some q → Touch (N.q k) (N.z k) q g → R'.heap[g]? = R.heap[g]?)
    (hb : Below w0.heap.size w0 R') : Rel w0 N s a R' :=
  ⟨h.defers, h.size, h.slots, fun i e cs hi => by
    obtain ⟨h1, vs, h2, h3⟩ := h.boxes i e cs hi
    exact ⟨h1, vs, h2, (hB i _ hi).trans h3⟩, h.inj, fun k q hk => (h.seqs k q hk).keep hz fun g hg => hS k q g hk hg, h.sepB, h.sepQ, hb⟩

theorem own_base {base : Nat} {v : Value} {zs : List Value} {q : Sq} (h : SeqR base R v zs q) (ho : q.own = true) {g : Nat} (hg : blkOf v = some g) : base ≤ g := by
  rcases (h.own ho).2 with ⟨e, _⟩ | ⟨g', cap, cur, e, hb, _⟩
  · rw [e] at hg; cases hg
  · rw [e] at hg; cases hg; exact hb

/-- The state behind an operation that brings new sequences. -/
theorem Rel.more {N : Nm} {s : St} {d : Nat} (hd : d < s.n) (h : Rel w0 N s a R) {news : List Sq} {drop : Option Nat} {v : Nat → Value} {z : Nat → List Value} (m : MoreOk w0.heap.size N s R news drop R' v z) {x : AV} (hx : x.simple = true) (hlt : x.ltB news.length = true) :
    ∃ N', Rel w0 N' ((Go.Proofs.Yteebobbhhgmeiaa.addSeqs (dropS s drop) (8 * d) news).put d (x.shift (8 * d))) (a.put (some d) (conc ⟨N.b, v, z⟩ x)) R' := by
  have hkeep : ∀ k q, (dropS s drop).seq k = some q → s.seq k = some q ∧ drop ≠ some k := fun k q hk => by
    cases drop with
    | none => exact ⟨hk, fun e => by cases e⟩
    | some k0 =>
      have : lookQ k ((k0, none) :: s.q) = some q := hk
      rw [seq_cons] at this
      by_cases he : k = k0
      · rw [if_pos he] at this; cases this
      · rw [if_neg he] at this; exact ⟨this, fun e => he (Option.some.inj e).symm⟩
  have hbox : ∀ i y, (dropS s drop).box i = some y → ∃ y', s.box i = some y' := fun i y hi => by
    cases drop with
    | none => exact ⟨y, hi⟩
    | some k0 => exact lookB_killBs' (b := s.b) hi
  have h0 : Rel w0 N (dropS s drop) a R := by
    cases drop with
    | none => exact h
    | some k0 => exact h.dropSeq k0
  have hboxg : ∀ i y, s.box i = some y → ¬ Dropped N s drop (N.b i) := fun i y hi ⟨k, q, _, hk, ho, hg⟩ => h.sepB k q _ hk (.inl ⟨.inr ho, hg⟩) i y hi rfl
  have hseqg : ∀ k q g, (dropS s drop).seq k = some q → Touch (N.q k) (N.z k) q g → ¬ Dropped N s drop g := fun k q g hk hg ⟨k', q', e, hk', ho, hg'⟩ => by
    obtain ⟨h1, h2⟩ := hkeep k q hk
    exact (h.sepQ k' q' g hk' ho hg').1 k q (fun e' => h2 (by rw [e', e])) h1 hg
  have h1 : Rel w0 N (dropS s drop) a R' := by
    refine h0.stay m.size (fun i y hi => ?_) (fun k q g hk hg => ?_) ?_
    · obtain ⟨y', hi'⟩ := hbox i y hi
      obtain ⟨_, _, _, h3⟩ := h.boxes i y'.1 y'.2 hi'
      exact m.stay _ (blk_lt h3) (hboxg i y' hi')
    · exact m.stay g ((h0.seqs k q hk).lt hg) (hseqg k q g hk hg)
    · obtain ⟨b1, b2, b3, b4, b5⟩ := h.bel
      refine ⟨m.os.trans b1, m.tape.trans b2, m.output.trans b3, Nat.le_trans b4 m.size, fun k hk => ?_⟩
      refine (m.stay k (by omega) fun ⟨k', q', _, hk', ho, hg⟩ => ?_).trans (b5 k hk)
      have := own_base (h.seqs k' q' hk') ho hg
      omega
  have h2 := Rel.addSeqs (v := v) (z := z) (l := news) (j0 := 0) (id := 8 * d) h1 (fun i q hq => by rw [Nat.zero_add]; exact m.seq i q hq)
    (fun i q g hq ht => by
      rw [Nat.zero_add] at ht
      refine ⟨fun b y hb e => ?_, fun k' q' hk' ho hg => ?_⟩
      · obtain ⟨y', hb'⟩ := hbox b y hb
        obtain ⟨_, _, _, h3⟩ := h.boxes b y'.1 y'.2 hb'
        rcases m.new i q g hq ht with hge | hdr
        · have := blk_lt h3
          omega
        · exact hboxg b y' hb' (e ▸ hdr)
      · have hlt' := (h0.seqs k' q' hk').lt (.inl ⟨.inr ho, hg⟩)
        rcases m.new i q g hq ht with hge | hdr
        · omega
        · exact hseqg k' q' g hk' (.inl ⟨.inr ho, hg⟩) hdr)
    (fun i q g hq ho hg k' q' hk' ht => by
      rw [Nat.zero_add] at hg
      have hlt' := (h0.seqs k' q' hk').lt ht
      rcases m.new i q g hq (.inl ⟨.inr ho, hg⟩) with hge | hdr
      · omega
      · exact hseqg k' q' g hk' ht hdr)
    (fun i q g hq ho hg => by
      rw [Nat.zero_add] at hg
      obtain ⟨g1, g2⟩ := m.sep i q g hq ho hg
      refine ⟨fun i' q' hne hq' => by rw [Nat.zero_add]; exact g1 i' q' hne hq', fun K mm v' hK hm hv => ?_⟩
      rw [Nat.zero_add] at hv
      exact g2 K mm v' hK hm hv)
  refine ⟨_, h2.put (x := x.shift (8 * d)) ?_ _ ((holds_simple (by rw [shift_simple]; exact hx)).2 ?_)⟩
  · have hn : ∀ (l : List Sq) (s : St) (id : Nat), (Go.Proofs.Yteebobbhhgmeiaa.addSeqs s id l).n = s.n := fun l => by
      induction l with
      | nil => intro s id; rfl
      | cons q r ih => intro s id; exact ih (s.newSeq id q) (id + 1)
    rw [hn]
    cases drop <;> exact hd
  · exact (shift_conc (fun k hk => by
      have := addN_in v z news N (8 * d) 0 k hk
      rwa [Nat.zero_add] at this) hlt).symm
end
end Go.Proofs.Yteebobbhhgmeiaa
