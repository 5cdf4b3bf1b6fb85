/- A symbolic run over typed data, part I: the operations that turn memory, and what they come to. -/
import Derived.Test.YteebobbhhgmeiaaTI0
namespace Go.Proofs.Yteebobbhhgmeiaa
open Go.RowKit

/-! ### what is reckoned -/
def chunks (size : Nat) : Nat → List A → List (List A)
  | 0, _ => []
  | n + 1, l => l.take size :: chunks size n (l.drop size)
theorem chunks_length (size : Nat) : ∀ (n : Nat) (l : List A), (chunks size n l).length = n
  | 0, _ => rfl
  | n + 1, l => by unfold chunks; rw [List.length_cons, chunks_length size n]
theorem chunks_nth (size : Nat) : ∀ (n : Nat) (l : List A) (k : Nat), k < n → nthL (chunks size n l) k = (l.drop (k * size)).take size
  | 0, _, _, h => by cases h
  | n + 1, l, 0, _ => by unfold chunks; simp [nthL]
  | n + 1, l, k + 1, h => by
    unfold chunks
    show nthL (chunks size n (l.drop size)) k = _
    rw [chunks_nth size n _ k (by omega), List.drop_drop, Nat.succ_mul, Nat.add_comm]

def sideB (P : Program) (e : TypeId) (sz : Nat) : Bool := match P.info? e with
  | some i => match i.zero with
    | some z => Nat.beq i.size sz && (Nat.beq z.cells.size sz && (Nat.ble 1 sz && Nat.ble i.bytes 256))
    | none => false
  | none => false
theorem sideB_ok {P : Program} {e : TypeId} {sz : Nat} (h : sideB P e sz = true) : ∃ i z, P.info? e = some i ∧ i.zero = some z ∧ i.size = sz ∧ z.cells.size = sz ∧ 0 < sz ∧ i.bytes ≤ 256 := by
  unfold sideB at h
  split at h <;> first | (cases h; done) | skip
  rename_i i hi
  split at h <;> first | (cases h; done) | skip
  rename_i z hz
  simp only [Bool.and_eq_true] at h
  obtain ⟨h1, h2, h3, h4⟩ := h
  exact ⟨i, z, hi, hz, Nat.eq_of_beq_eq_true h1, Nat.eq_of_beq_eq_true h2, Nat.le_of_ble_eq_true h3, Nat.le_of_ble_eq_true h4⟩
def cellsOf (s : St) (G : Guards) (v : Operand) : Option (List A) := match s.ev G v with
  | some x => match cellsA x with
    | some us => bif sqOk s.o us then (bif oneA us then some us else none) else none
    | none => none
  | none => none
def boundP (n : Nat) : Prop := n ≤ 549755813888
instance (n : Nat) : Decidable (boundP n) := inferInstanceAs (Decidable (n ≤ 549755813888))

def allocE (E : Env) (s : St) (e : TypeId) : Option Eff := match (E.P.info? e).bind (·.zero) with
  | some z => some ⟨.own s.nx 0, s.nx + 1, (s.nx, some (.box e (toL z.cells.toList))) :: s.o, 1, []⟩
  | none => none
def boxE (s : St) (G : Guards) (e : TypeId) (v : Operand) : Option Eff := match s.ev G v with
  | some x => match cellsA x with
    | some us => bif sqOk s.o us then some ⟨.own s.nx 0, s.nx + 1, (s.nx, some (.box e us)) :: s.o, 1, []⟩ else none
    | none => none
  | none => none
def setE (E : Env) (s : St) (G : Guards) (t : TypeId) (x v : Operand) : Option Eff :=
  match cellsOf s G v with
  | some us => match sizeP E.P t with
    | some n => bif Nat.beq n us.length then (match s.ev G x with
      | some (.own i off) => match lookO i s.o with
        | some (.box e cs) => bif Nat.ble (off + n) cs.length then some ⟨.v undef, s.nx, (i, some (.box e (putL off us cs))) :: s.o, 2, []⟩ else none
        | _ => none
      | some (.ownx i base len k) => match lookO i s.o with
        | some (.box e cs) => match us with
          | [u] => bif Nat.ble (base + len) cs.length then some ⟨.v undef, s.nx, (i, some (.box e (putL base (setA k u 0 ((cs.drop base).take len)) cs))) :: s.o, 2, [k < len]⟩ else none
          | _ => none
        | _ => none
      | some (.el i k sz off) => match lookO i s.o with
        | some (.arr e size els) => bif Nat.beq size sz then (bif Nat.ble (off + n) size then (match setEls k off us els with
          | some (els', ps) => some ⟨.v undef, s.nx, (i, some (.arr e size els')) :: s.o, 2, (k < els.n) :: ps⟩
          | none => none) else none) else none
        | _ => none
      | _ => none) else none
    | none => none
  | none => none
def repL (z : List A) : Nat → List A
  | 0 => []
  | n + 1 => z ++ repL z n
def buildSlE (E : Env) (s : St) (G : Guards) (t : TypeId) (len : Nat) (parts : List (Nat × Operand)) : Option Eff :=
  match E.P.underlying t with
  | some (.slice e) => match E.P.info? e with
    | some i => match i.zero with
      | some z => match partsE s G parts with
        | some ps => bif Nat.ble (len * i.size) 16777216 then (bif Nat.beq z.cells.size i.size then (bif Nat.ble 1 i.size then
            (match fillA (fun k => some (k * i.size, i.size)) (repL (toL z.cells.toList) len) ps with
            | some cs => bif oneEls s.o (.lst (chunks i.size len cs)) then some ⟨.sq s.nx, s.nx + 1, (s.nx, some (.arr e i.size (.lst (chunks i.size len cs)))) :: s.o, 1, []⟩ else none
            | none => none) else none) else none) else none
        | none => none
      | none => none
    | none => none
  | _ => none
def makeSlE (E : Env) (s : St) (G : Guards) (t : TypeId) (len cap : Operand) : Option Eff :=
  match E.P.underlying t with
  | some (.slice e) => match E.tc e with
    | some c => match s.raw G len, s.raw G cap with
      | some (.int _ l), some (.int _ m) => bif sideB E.P e (size c) then
          some ⟨.sq s.nx, s.nx + 1, (s.nx, some (.arr e (size c) (.ty c (List.replicate l.toNat (dflt c))))) :: s.o, 1, [0 ≤ l ∧ l ≤ m ∧ m ≤ 549755813888]⟩ else none
      | _, _ => none
    | none => none
  | _ => none

/-- Where an append begins: the row that is given up, its elements. -/
def destE (o : Objs) (e : TypeId) (sz : Nat) : A → Option (Option Nat × Els)
  | .sq i => match lookO i o with
    | some (.arr e' size els) => bif Nat.beq e' e then (bif Nat.beq size sz then some (some i, els) else none) else none
    | _ => none
  | .nl => some (none, .lst [])
  | .v x => bif isNilV x then some (none, .lst []) else none
  | _ => none
def isStr (d : Option TypeDesc) : Bool := match d with
  | some .string => true
  | _ => false
def isSl (d : Option TypeDesc) : Bool := match d with
  | some (.slice _) => true
  | _ => false
/-- What is appended. -/
def moreE (E : Env) (s : St) (G : Guards) (u : TypeId) (sz : Nat) (y : Operand) : Option (Els × List Prop) :=
  bif isStr (E.P.underlying u) then (match s.raw G y with
    | some (.string b) => bif Nat.beq sz 1 then some (.ty .u8 b.data.toList, []) else none
    | _ => none)
  else bif isSl (E.P.underlying u) then (match s.ev G y with
    | some y' => srcE s.o sz y'
    | none => none) else none
def appE (E : Env) (s : St) (G : Guards) (t u : TypeId) (x y : Operand) : Option Eff :=
  match E.P.underlying t with
  | some (.slice e) => match sizeP E.P e with
    | some sz => bif sideB E.P e sz then (match moreE E s G u sz y with
      | some (b, ps) => match s.ev G x with
        | some (.vw i z lo n true) => match lookO i s.o with
          | some (.arr _ size els) => bif Nat.beq z sz then (bif Nat.beq size sz then (match catEls (subEls lo n els) b with
            | some (r, qs) => match r.norm (E.tc e) with
              | (r', rs) => some ⟨.sq s.nx, s.nx + 1, (s.nx, some (.arr e sz r')) :: s.o, 1, (lo + n ≤ els.n ∧ 0 < b.n ∧ boundP (n + b.n)) :: (ps ++ (qs ++ rs))⟩
            | none => none) else none) else none
          | _ => none
        | some x' => match destE s.o e sz x' with
          | some (d, a) => match catEls a b with
            | some (r, qs) => match r.norm (E.tc e) with
              | (r', rs) => some ⟨.sq s.nx, s.nx + 1, (s.nx, some (.arr e sz r')) :: dropO1 s.o d, bif d.isSome then 2 else 1, boundP (a.n + b.n) :: (ps ++ (qs ++ rs))⟩
            | none => none
          | none => none
        | none => none
      | none => none) else none
    | none => none
  | _ => none
/-- A row, its middle part put anew. -/
def midE (lo n : Nat) (els b : Els) : Option (Els × List Prop) := match els with
  | .ty c l => match elsTy c b with
    | some (m, ps) => some (.ty c (l.take lo ++ (m.take n ++ l.drop (lo + Nat.min n m.length))), ps)
    | none => none
  | .lst _ => none
def copyE (E : Env) (s : St) (G : Guards) (t u : TypeId) (x y : Operand) : Option Eff :=
  match E.P.underlying t with
  | some (.slice e) => match sizeP E.P e with
    | some sz => bif sideB E.P e sz then (match moreE E s G u sz y with
      | some (b, ps) => match s.ev G x with
        | some (.sq i) => match lookO i s.o with
          | some (.arr e' size els) => bif Nat.beq size sz then (match midE 0 els.n els b with
            | some (r, qs) => some ⟨.v (.int .i64 (Nat.min b.n els.n : Nat)), s.nx, (i, some (.arr e' size r)) :: s.o, 2, ps ++ qs⟩
            | none => none) else none
          | _ => none
        | some (.vw i z lo n _) => match lookO i s.o with
          | some (.arr e' size els) => bif Nat.beq z sz then (bif Nat.beq size sz then (match midE lo n els b with
            | some (r, qs) => some ⟨.v (.int .i64 (Nat.min b.n n : Nat)), s.nx, (i, some (.arr e' size r)) :: s.o, 2, (lo + n ≤ els.n) :: (ps ++ qs)⟩
            | none => none) else none) else none
          | _ => none
        | _ => none
      | none => none) else none
    | none => none
  | _ => none
def strBytesE (E : Env) (s : St) (G : Guards) (src dst : TypeId) (x : Operand) : Option Eff :=
  match E.P.underlying src, E.P.underlying dst with
  | some .string, some (.slice e) => match E.P.underlying e, s.raw G x with
    | some (.int .u8), some (.string b) => some ⟨.sl .u8 b.data.toList, s.nx, s.o, 1, []⟩
    | _, _ => none
  | _, _ => none
def callEff (E : Env) (s : St) (G : Guards) (f : Operand) (args : List Operand) : Option Eff := match callR E s G f args with
  | some (k, x, nx', o', ps) => some ⟨x, nx', o', bif Nat.ble k 1 then 1 else 2, ps⟩
  | none => none

/-! ### texts, rune by rune; maps -/
def rangeE (E : Env) (s : St) (G : Guards) (t : TypeId) (x : Operand) : Option Eff := match E.P.underlying t, s.raw G x with
  | some .string, some (.string b) => some ⟨.own s.nx 0, s.nx + 1, (s.nx, some (.sit b 0)) :: s.o, 1, []⟩
  | _, _ => none
def nextE (s : St) (G : Guards) (it : Operand) : Option Eff := match s.ev G it with
  | some (.own i off) => bif Nat.beq off 0 then (match lookO i s.o with
    | some (.sit b pos) => some ⟨.it (decide (pos < b.size)) [.int .i64 (pos : Nat), .int .i32 ((Utf8.decode b pos).1 : Nat)], s.nx, (i, some (.sit b (bif decide (pos < b.size) then pos + (Utf8.decode b pos).2 else pos))) :: s.o, 2, []⟩
    | _ => none) else none
  | _ => none
def mkMapE (E : Env) (s : St) (t : TypeId) : Option Eff := bif keyB E t then some ⟨.mp s.nx, s.nx + 1, (s.nx, some (.map .str .i64 [])) :: s.o, 1, []⟩ else none
def mapUpE (E : Env) (s : St) (G : Guards) (t : TypeId) (m k x : Operand) : Option Eff := match s.ev G m, s.raw G k, s.raw G x with
  | some y, some (.string b), some (.int .i64 n) => match mapI s.o y with
    | some (i, l) => bif keyB E t then some ⟨.v undef, s.nx, (i, some (.map .str .i64 (updM l b n))) :: s.o, 2, []⟩ else none
    | none => none
  | _, _, _ => none
def isUndefV : Value → Bool
  | .tuple _ => true
  | _ => false
/-- An operation that is no mere value. -/
def effE (E : Env) (s : St) (G : Guards) (o : Oper) : Option Eff :=
  match o.op with
  | .alloc e => allocE E s e
  | .box e v => boxE s G e v
  | .store t x v => setE E s G t x v
  | .buildSlice t len parts => buildSlE E s G t len parts.toList
  | .makeSlice t len cap => makeSlE E s G t len cap
  | .convert src dst x => strBytesE E s G src dst x
  | .call { callee := .builtin .append, args, argTypes } => match args.toList, argTypes.toList with
    | [x, y], [t, u] => appE E s G t u x y
    | _, _ => none
  | .call { callee := .builtin .copy, args, argTypes } => match args.toList, argTypes.toList with
    | [x, y], [t, u] => copyE E s G t u x y
    | _, _ => none
  | .call { callee := .value f, args, .. } => callEff E s G f args.toList
  | .range t x => rangeE E s G t x
  | .next it true => nextE s G it
  | .makeMap t none => mkMapE E s t
  | .mapUpdate t m k x => mapUpE E s G t m k x
  | _ => none
/-- Only worth asking as an effect. -/
def loudB : Op → Bool
  | .alloc _ => true
  | .box _ _ => true
  | .store _ _ _ => true
  | .buildSlice _ _ _ => true
  | .makeSlice _ _ _ => true
  | .call { callee := .builtin .append, .. } => true
  | .call { callee := .builtin .copy, .. } => true
  | .range _ _ => true
  | .next _ _ => true
  | .makeMap _ _ => true
  | .mapUpdate _ _ _ _ => true
  | _ => false
def opE (E : Env) (s : St) (G : Guards) (o : Oper) : Option Eff :=
  bif loudB o.op then effE E s G o else match valE E s G o with
    | some (x, ps) => some ⟨x, s.nx, s.o, 0, ps⟩
    | none => effE E s G o

/-! ### and it is so -/
section
variable {E : Env} {Z : Base} {F : Nat → Prop} {N : Nm} {s : St} {a : Act} {R : World} {G : Guards}

theorem cellsOf_ok (h : Rel Z F N s a R) (hG : GOk (tmOf a) G) {v : Operand} {us : List A} (he : cellsOf s G v = some us) : HL F N s.nx R us (a.eval v).cells.toList ∧ ∀ c ∈ (a.eval v).cells.toList, c.oneCell' = true := by
  unfold cellsOf at he
  split at he <;> first | (cases he; done) | skip
  rename_i x hx
  split at he <;> first | (cases he; done) | skip
  rename_i us' hc
  cases h1 : sqOk s.o us' with
  | false => rw [h1] at he; cases he
  | true =>
    cases h2 : oneA us' with
    | false => rw [h1, h2] at he; cases he
    | true =>
      rw [h1, h2] at he
      cases he
      have := cellsA_ok h.hp hc h1 (ev_ok h hG hx).2
      exact ⟨this, one_list h.hp h2 h1 this⟩
theorem dead_undef {F : Nat → Prop} {N : Nm} {nx : Nat} {R : World} : Hv F N nx R (.v undef) undef := .v _
theorem set_ok (h : Rel Z F N s a R) (hG : GOk (tmOf a) G) {t : TypeId} {x v : Operand} {f : Eff} (he : setE E s G t x v = some f) (hp : ∀ p ∈ f.ps, p) :
    ∃ R', (Instr.storeAt t (a.eval x) (a.eval v)).run E.P R = .ok () R' ∧ EK F N s.nx s.o R f undef R' := by
  unfold setE at he
  split at he <;> first | (cases he; done) | skip
  rename_i us hus
  obtain ⟨hu, h1⟩ := cellsOf_ok h hG hus
  have hlen := hu.length
  split at he <;> first | (cases he; done) | skip
  rename_i n hn
  cases hb : Nat.beq n us.length with
  | false => rw [hb] at he; cases he
  | true =>
    rw [hb] at he
    obtain rfl := Nat.eq_of_beq_eq_true hb
    simp only [cond_true] at he
    rw [← hlen] at hn
    split at he <;> first | (cases he; done) | skip
    · rename_i i off hx
      have hx' := (ev_ok h hG hx).2.own_inv
      split at he <;> first | (cases he; done) | skip
      rename_i e cs hl
      cases hb2 : Nat.ble (off + us.length) cs.length with
      | false => rw [hb2] at he; cases he
      | true =>
        rw [hb2] at he
        cases he
        have hle := Nat.le_of_ble_eq_true hb2
        obtain ⟨_, vs, g1, g2⟩ := h.hp.ob i _ hl
        have hvl := g1.length
        refine ⟨_, run_storeAt hx'.2 g2 hn (by omega) h1, ek_set h.hp hl (HL.put hu g1) g2⟩
    · rename_i i base len k hx
      have hx' := (ev_ok h hG hx).2.ownx_inv
      split at he <;> first | (cases he; done) | skip
      rename_i e cs hl
      split at he <;> first | (cases he; done) | skip
      rename_i u
      cases hb2 : Nat.ble (base + len) cs.length with
      | false => rw [hb2] at he; cases he
      | true =>
        rw [hb2] at he
        cases he
        have hle := Nat.le_of_ble_eq_true hb2
        have hk : k < len := hp _ (List.mem_singleton.2 rfl)
        obtain ⟨_, vs, g1, g2⟩ := h.hp.ob i _ hl
        have hvl := g1.length
        obtain ⟨y, ys, hy, hu1, hu2⟩ := hu.inv
        have hys := hu2.inv0
        subst hys
        have hsel := setA_ok hu1 ((g1.drop base).take len) (Nat.zero_le k) (by rw [List.length_take, List.length_drop]; omega)
        have hput := HL.put (off := base) hsel g1
        rw [Nat.sub_zero] at hput
        have hl2 : (((vs.drop base).take len).take k ++ [y] ++ ((vs.drop base).take len).drop (k + 1)).length = len := by
          simp only [List.length_append, List.length_take, List.length_drop, List.length_cons, List.length_nil]
          omega
        rw [hl2] at hput
        have hrun := run_storeAt (P := E.P) hx'.2 g2 hn (by rw [hy]; simp; omega) h1
        rw [hy] at hrun
        have e1 : vs.take (base + k) ++ [y] ++ vs.drop (base + k + [y].length) = vs.take base ++ (((vs.drop base).take len).take k ++ [y] ++ ((vs.drop base).take len).drop (k + 1)) ++ vs.drop (base + len) := by
          rw [List.take_take, Nat.min_eq_left (by omega), List.drop_take, List.drop_drop]
          have e2 : vs.take (base + k) = vs.take base ++ (vs.drop base).take k := by rw [List.take_add]
          have e3 : vs.drop (base + (k + 1)) = (vs.drop (base + (k + 1))).take (len - (k + 1)) ++ vs.drop (base + len) := by
            have := (List.take_append_drop (len - (k + 1)) (vs.drop (base + (k + 1)))).symm
            rwa [List.drop_drop, show base + (k + 1) + (len - (k + 1)) = base + len by omega] at this
          rw [e2, show base + k + [y].length = base + (k + 1) by simp; omega]
          conv => lhs; rw [e3]
          simp [List.append_assoc]
        rw [e1] at hrun
        exact ⟨_, hrun, ek_set h.hp hl hput g2⟩
    · rename_i i k sz off hx
      have hx' := (ev_ok h hG hx).2.el_inv
      split at he <;> first | (cases he; done) | skip
      rename_i e size els hl
      cases hb2 : Nat.beq size sz with
      | false => rw [hb2] at he; cases he
      | true =>
      cases hb3 : Nat.ble (off + us.length) size with
      | false => rw [hb2, hb3] at he; cases he
      | true =>
        rw [hb2, hb3] at he
        simp only [cond_true] at he
        split at he <;> first | (cases he; done) | skip
        rename_i els' qs hels
        cases he
        obtain rfl := Nat.eq_of_beq_eq_true hb2
        have hle := Nat.le_of_ble_eq_true hb3
        have hk : k < els.n := hp _ (List.mem_cons_self ..)
        obtain ⟨_, zs, g1, g2⟩ := h.hp.ob i _ hl
        have hr : RowHL F N s.nx R els size zs := ⟨g1.1, g2⟩
        obtain ⟨r1, r2⟩ := setEls_ok hels (fun p hm => hp p (List.mem_cons_of_mem _ hm)) hr hu hk (by omega)
        obtain ⟨g, cap, cur, q1, q2, q3, q4, q5, q6⟩ := own_blk g1 (by omega)
        have hkk : k * size + size ≤ els.n * size := by rw [← Nat.succ_mul]; exact Nat.mul_le_mul_right _ hk
        have hown := own_put (w := R) (o := k * size + off) (vs := (a.eval v).cells.toList) g1.1 q2 q3 q4 q5 q6 (by omega)
        rw [← q1, ← r1] at hown
        have hcur : els.n * size ≤ cur.toList.length := by rw [Array.length_toList, q5]; exact Nat.mul_le_mul_right _ q3
        have hpl : a.eval x = .pointer (some ⟨g, k * size + off, none⟩) := by
          rw [hx'.2]
          show Value.pointer (some ((placeOf (N.q i)).add _)) = _
          rw [q1]
          show Value.pointer (some ((⟨g, 0, none⟩ : Addr).add _)) = _
          rw [add_mk, Nat.zero_add]
        have hrun := run_storeAt (P := E.P) (R := R) (cs := cur.toList) hpl (by simpa using q2) hn (by omega) h1
        refine ⟨_, hrun, ek_put (R' := R.setRow g (cur.toList.take (k * size + off) ++ (a.eval v).cells.toList ++ cur.toList.drop (k * size + off + (a.eval v).cells.toList.length)).toArray) h.hp hl rfl rfl rfl (by simp) (fun g' _ hg' => setRow_other R _ g' _ (fun e => ?_)) hown r2 fun _ _ => .v _⟩
        subst e
        rw [q1] at hg'
        exact hg' rfl

theorem repL_ok {F : Nat → Prop} {N : Nm} {nx : Nat} {R : World} {z : List A} {zs : List Value} (h : HL F N nx R z zs) : ∀ n, HL F N nx R (repL z n) ((List.replicate n zs).flatten)
  | 0 => HL.nil
  | n + 1 => by
    unfold repL
    rw [List.replicate_succ, List.flatten_cons]
    exact h.append (repL_ok h n)
theorem madeCells_rep (z : Array Value) : ∀ n, (madeCells z (n * z.size)).toList = (List.replicate n z.toList).flatten := fun n => by
  apply List.ext_getElem?
  intro m
  by_cases hm : m < n * z.size
  · have hz : 0 < z.size := by
      rcases Nat.eq_zero_or_pos z.size with h0 | h0
      · rw [h0] at hm; simp at hm
      · exact h0
    have hmod := Nat.mod_lt m hz
    have e1 : (madeCells z (n * z.size)).toList[m]? = some z[m % z.size] := by
      have : (madeCells z (n * z.size))[m]? = some (z[m % z.size]!) := by simp [madeCells, hm]
      rw [Array.getElem?_toList, this]
      simp [hmod]
    rw [e1]
    have key : ∀ (k i : Nat), i < k * z.size → ((List.replicate k z.toList).flatten)[i]? = some (z[i % z.size]'(Nat.mod_lt _ hz)) := by
      intro k
      induction k with
      | zero => intro i hi; simp at hi
      | succ k ih =>
        intro i hi
        rw [List.replicate_succ, List.flatten_cons, List.getElem?_append]
        by_cases hlt : i < z.toList.length
        · rw [if_pos hlt]
          have hlt' : i < z.size := by simpa using hlt
          simp [hlt', Nat.mod_eq_of_lt hlt']
        · rw [if_neg hlt]
          have hge : z.size ≤ i := by simpa using hlt
          rw [Nat.succ_mul] at hi
          rw [show z.toList.length = z.size by simp, ih (i - z.size) (by omega)]
          congr 1
          have : (i - z.size) % z.size = i % z.size := by
            conv => rhs; rw [show i = (i - z.size) + z.size by omega, Nat.add_mod_right]
          simp only [this]
    exact (key n m hm).symm
  · rw [List.getElem?_eq_none (by rw [Array.length_toList, size_madeCells]; omega), List.getElem?_eq_none]
    simp only [List.length_flatten, List.map_replicate, Array.length_toList, List.sum_replicate_nat]
    omega

theorem run_buildSl {P : Program} {t e : TypeId} {i : TypeInfo} {z : Value} {len : Nat} {parts : List (Nat × Value)} (hu : P.underlying t = some (.slice e)) (hi : P.info? e = some i) (hz : i.zero = some z) (hs : len * i.size ≤ 16777216)
    {arr : Array Value} (hf : Instr.fill (fun k => some (k * i.size, i.size)) (madeCells z.cells (len * i.size)) parts = some arr) (R : World) :
    (Instr.buildSlice t len parts.toArray).run P R = .ok (.slice (some ⟨R.heap.size, 0, none⟩) len len) (R.alloc (.cells arr e (0, 0))) := by
  have g1 : ¬ len * i.size > 2 ^ 24 := by omega
  have hf' : Instr.fill (fun k => some (k * i.size, i.size)) (Array.map (fun k => z.cells[k % z.cells.size]!) (Array.range (len * i.size))) parts = some arr := hf
  by_cases g2 : len * i.size = 0
  · have hz0 : ∀ f : Nat → Value, Array.map f (Array.range 0) = #[] := fun f => Array.eq_empty_of_size_eq_zero (by simp)
    rw [g2, hz0] at hf'
    simp [Instr.buildSlice, run_underlying hu, sizeOf, typeInfo, hi, g2, hz0, hf', newRow]
  · simp only [Instr.buildSlice, Sem.run_bind, run_underlying hu, Result.andThen_ok, sizeOf, typeInfo, run_program, hi, Sem.run_pure, g1, g2, if_false, zeroValue, hz, hf']
    simp [newRow]

/-- What is appended, or copied: its elements in memory. -/
theorem moreE_ok (h : Rel Z F N s a R) (hG : GOk (tmOf a) G) {u : TypeId} {sz : Nat} {y : Operand} {b : Els} {ps : List Prop} (he : moreE E s G u sz y = some (b, ps)) (hp : ∀ p ∈ ps, p) (hs : 0 < sz) :
    (∃ e', E.P.underlying u = some (.slice e') ∨ E.P.underlying u = some .string) ∧ ∃ us, RowHL F N s.nx R b sz us ∧ (∀ v ∈ us, v.oneCell' = true) ∧
      ∀ R', (∀ ad v, R.cell? ad = some v → R'.cell? ad = some v) → (Builtin.lenOf (a.eval y)).run E.P R' = .ok b.n R' ∧ ∀ k, k ≤ b.n → (Builtin.firstCells sz k (a.eval y)).run E.P R' = .ok (us.take (k * sz)).toArray R' := by
  unfold moreE at he
  cases h1 : isStr (E.P.underlying u) with
  | true =>
    rw [h1] at he
    simp only [cond_true] at he
    split at he <;> first | (cases he; done) | skip
    rename_i bs hb
    cases hb1 : Nat.beq sz 1 with
    | false => rw [hb1] at he; cases he
    | true =>
      rw [hb1] at he
      cases he
      obtain rfl := Nat.eq_of_beq_eq_true hb1
      have hu : E.P.underlying u = some .string := by
        unfold isStr at h1
        split at h1 <;> first | (cases h1; done) | skip
        rename_i hh
        exact hh
      refine ⟨⟨0, .inr hu⟩, bs.data.toList.map byteV, ⟨by simp [Els.n], fun k hk => ?_⟩, fun v hv => ?_, fun R' _ => ?_⟩
      · have hk' : k < bs.data.toList.length := hk
        show HL F N s.nx R (enc .u8 (bs.data.toList.getD k 0)) _
        rw [Nat.mul_one]
        have e1 : ((bs.data.toList.map byteV).drop k).take 1 = [byteV (bs.data.toList.getD k 0)] := by
          rw [List.drop_eq_getElem_cons (by simpa using hk'), List.take_succ_cons, List.take_zero, List.getElem_map, List.getD_eq_getElem?_getD, List.getElem?_eq_getElem hk']
          rfl
        rw [e1]
        exact HL.cons (.v _) HL.nil
      · obtain ⟨b, _, rfl⟩ := List.mem_map.1 hv
        rfl
      · rw [raw_ok h hG hb]
        refine ⟨by simp only [Builtin.lenOf, Sem.run_pure]; rfl, fun k hk => ?_⟩
        have hk' : k ≤ bs.data.toList.length := hk
        simp only [Builtin.firstCells, Sem.run_pure]
        congr 1
        apply Array.ext'
        rw [Nat.mul_one, Array.toList_map]
        have : (bs.extract 0 k).data.toList = bs.data.toList.take k := by
          rw [ByteArray.data_extract, Array.toList_extract, List.extract_eq_take_drop]
          simp
        rw [this, List.map_take]
        rfl
  | false =>
    rw [h1] at he
    simp only [cond_false] at he
    cases h2 : isSl (E.P.underlying u) with
    | false => rw [h2] at he; cases he
    | true =>
      rw [h2] at he
      simp only [cond_true] at he
      split at he <;> first | (cases he; done) | skip
      rename_i y' hy
      have hu : ∃ e', E.P.underlying u = some (.slice e') := by
        unfold isSl at h2
        split at h2 <;> first | (cases h2; done) | skip
        rename_i e' hh
        exact ⟨e', hh⟩
      obtain ⟨e', hu⟩ := hu
      obtain ⟨us, g1, g2, g3⟩ := srcE_ok h.hp he hp (ev_ok h hG hy).2 hs
      exact ⟨⟨e', .inl hu⟩, us, g2, g3, fun R' hc => src_read g1 hc⟩
end
end Go.Proofs.Yteebobbhhgmeiaa
