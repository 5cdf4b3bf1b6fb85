/- made by a program (rowgen.py): MerklePaths: for every input the law returns true, and each argument reads behind the call as it read before. -/
import Derived.Test.YtbhonfgbmkppiaaDoorKMqe
import Derived.Test.YtbhonfgbmkppiaaDoorRows

set_option maxRecDepth 100000
namespace Go.Proofs.YtbhonfgbmkppiaaDoor
open Go.RowKit
noncomputable def Cf := Cd
theorem Cf_ok : COk Tryd.prog Cf := Cd_ok
end Go.Proofs.YtbhonfgbmkppiaaDoor
namespace Go.Proofs.YtbhonfgbmkppiaaDoor
open Go.RowKit
theorem scan_from {X : Type} (mk : Nat → X) (n : Nat) (stop : Nat → Bool) (next : X → X) (goes : X → Cnd) (ps : X → List Prop)
  (hg : ∀ i, i ≤ n → (∀ j, j < i → stop j = false) → cval (goes (mk i)) = (decide (i < n) && !stop i)) (hn : ∀ i, i < n → (∀ j, j < i + 1 → stop j = false) → next (mk i) = mk (i + 1)) (hp : ∀ i, i ≤ n → (∀ j, j < i → stop j = false) → ∀ p ∈ ps (mk i), p) :
  ∀ (f i : Nat), i ≤ n → n ≤ i + f → (∀ j, j < i → stop j = false) →
  needX next goes ps f (mk i) ∧ ∃ k, k ≤ n ∧ iterX next goes f (mk i) = mk k ∧ (∀ j, j < k → stop j = false) ∧ (k < n → stop k = true)
 | 0, i, hi, hf, hs => by
  have hc := hg i hi hs
  have : i = n := by omega
  rw [decide_eq_false (by omega), Bool.false_and] at hc
  exact ⟨⟨hp i hi hs, hc⟩, i, hi, rfl, hs, fun h => by omega⟩
 | f + 1, i, hi, hf, hs => by
  have hc := hg i hi hs
  cases hb : cval (goes (mk i)) with
  | false =>
   have e : iterX next goes (f + 1) (mk i) = mk i := by
    show (bif cval (goes (mk i)) then _ else mk i) = mk i
    rw [hb]; rfl
   rw [e]
   refine ⟨⟨hp i hi hs, fun h => by rw [hb] at h; cases h⟩, i, hi, rfl, hs, fun h => ?_⟩
   rw [hb, decide_eq_true h, Bool.true_and] at hc
   cases hst : stop i with
   | true => rfl
   | false => rw [hst] at hc; cases hc
  | true =>
   rw [hb] at hc
   have h1 : i < n := by
    cases hd : decide (i < n) with
    | true => exact of_decide_eq_true hd
    | false => rw [hd] at hc; cases hc
   have h2 : stop i = false := by
    cases hst : stop i with
    | false => rfl
    | true => rw [hst, Bool.and_comm] at hc; cases hc
   have hs' : ∀ j, j < i + 1 → stop j = false := fun j hj => by
    by_cases h : j < i
    ·exact hs j h
    ·obtain rfl : j = i := by omega
     exact h2
   have e : iterX next goes (f + 1) (mk i) = iterX next goes f (mk (i + 1)) := by
    show (bif cval (goes (mk i)) then iterX next goes f (next (mk i)) else mk i) = _
    rw [hb, hn i h1 hs']; rfl
   obtain ⟨g1, g2⟩ := scan_from mk n stop next goes ps hg hn hp f (i + 1) h1 (by omega) hs'
   rw [e]
   exact ⟨⟨hp i hi hs, fun _ => by rw [hn i h1 hs']; exact g1⟩, g2⟩
theorem scan {X : Type} (mk : Nat → X) (n : Nat) (stop : Nat → Bool) (next : X → X) (goes : X → Cnd) (ps : X → List Prop) (f : Nat) (x : X) (hx : x = mk 0) (hf : n ≤ f)
  (hg : ∀ i, i ≤ n → (∀ j, j < i → stop j = false) → cval (goes (mk i)) = (decide (i < n) && !stop i)) (hn : ∀ i, i < n → (∀ j, j < i + 1 → stop j = false) → next (mk i) = mk (i + 1)) (hp : ∀ i, i ≤ n → (∀ j, j < i → stop j = false) → ∀ p ∈ ps (mk i), p) :
  needX next goes ps f x ∧ ∃ k, k ≤ n ∧ iterX next goes f x = mk k ∧ (∀ j, j < k → stop j = false) ∧ (k < n → stop k = true) := by
 subst hx
 exact scan_from mk n stop next goes ps hg hn hp f 0 (Nat.zero_le _) (by omega) fun j h => absurd h (Nat.not_lt_zero _)
theorem wsucc {i : Nat} (h : i < 9223372036854775807) : IntKind.i64.wrap ((i : Int) + 1) = ((i + 1 : Nat) : Int) := by rw [i64_in (by omega)]; omega
theorem dlt {i n : Nat} : decide ((i : Int) < (n : Int)) = decide (i < n) := by
 by_cases h : i < n
 ·rw [decide_eq_true h, decide_eq_true (by omega)]
 ·rw [decide_eq_false h, decide_eq_false (by omega)]
theorem nn (b : Bool) : (!!b) = b := Bool.not_not b
theorem all_scan {α : Type} (l : List α) (d : α) (p : α → Bool) (k : Nat) (hk : k ≤ l.length) (h1 : ∀ j, j < k → p (l.getD j d) = true) (h2 : k < l.length → p (l.getD k d) = false) : l.all p = decide (¬ k < l.length) := by
 by_cases h : k < l.length
 ·rw [decide_eq_false (by omega)]
  have := h2 h
  rw [List.getD_eq_getElem?_getD, List.getElem?_eq_getElem h, Option.getD_some] at this
  cases ha : l.all p with
  | false => rfl
  | true => rw [List.all_eq_true.1 ha _ (List.getElem_mem h)] at this; cases this
 ·rw [decide_eq_true (by omega)]
  refine List.all_eq_true.2 fun x hx => ?_
  obtain ⟨i, hi, rfl⟩ := List.mem_iff_getElem.1 hx
  have := h1 i (by omega)
  rw [List.getD_eq_getElem?_getD, List.getElem?_eq_getElem hi, Option.getD_some] at this
  exact this
theorem beq0 (n : Nat) : (n == 0) = !decide (1 ≤ n) := by cases n <;> simp
theorem beq0i (n : Nat) : ((n : Int) == 0) = (n == 0) := by cases n <;> simp; omega
theorem dgt (n k : Nat) : decide ((n : Int) > (k : Int)) = decide (k < n) := decide_eq_decide.2 (by omega)
instance : LawfulBEq ByteArray where
 rfl := fun {a} => by cases a with | mk a => exact beq_self_eq_true a
 eq_of_beq := fun {a b} h => by
  cases a with | mk a => cases b with | mk b => exact congrArg ByteArray.mk (eq_of_beq (α := Array UInt8) h)
theorem find_upd : ∀ (m : List (ByteArray × Int)) (b : ByteArray) (v : Int) (x : ByteArray), findM (updM m b v) x = if x = b then v else findM m x
 | [], b, v, x => by
  by_cases h : x = b
  ·subst h; simp [updM, findM]
  ·simp [updM, findM, h, show (x == b) = false from beq_eq_false_iff_ne.2 h]
 | (a, n) :: r, b, v, x => by
  unfold updM
  by_cases h : b = a
  ·subst h
   rw [show (b == b) = true from beq_self_eq_true b, cond_true]
   by_cases hx : x = b
   ·subst hx; simp [findM]
   ·simp [findM, hx, show (x == b) = false from beq_eq_false_iff_ne.2 hx]
  ·rw [show (b == a) = false from beq_eq_false_iff_ne.2 h, cond_false]
   by_cases hx : x = a
   ·subst hx
    rw [if_neg (fun e => h e.symm)]
    simp [findM]
   ·simp only [findM, show (x == a) = false from beq_eq_false_iff_ne.2 hx, cond_false]
    exact find_upd r b v x
def lowB (b : UInt8) : Bool := decide (97 ≤ b.toNat) && decide (b.toNat ≤ 122)
def nameB (s : ByteArray) : Bool := s.data.toList.all lowB && (decide (1 ≤ s.size) && decide (s.size ≤ 12))
def polB (p : Int) : Bool := p == 1 || p == 2
def goodPs : List ByteArray → List TGroup → Int
 | _, [] => 0
 | seen, g :: r => bif !(nameB g.name && polB g.policy) then 2 else bif seen.any (fun s => s == g.name) then 70 else goodPs (seen ++ [g.name]) r
def goodP (l : List TGroup) : Int := bif l.length == 0 then 2 else bif decide (4 < l.length) then 3 else goodPs [] l
theorem size_data (s : ByteArray) : s.data.toList.length = s.size := by show s.data.toList.length = s.data.size; exact Array.length_toList
theorem get_data (s : ByteArray) (i : Nat) (h : i < s.size) : s.data.toList.getD i 0 = s[i]'h := by
 rw [List.getD_eq_getElem?_getD, List.getElem?_eq_getElem (by rw [size_data]; exact h)]
 rfl
theorem rune_low (s : ByteArray) (i : Nat) (h : i < s.size) : (decide (((Utf8.decode s i).1 : Int) < 97) || decide (((Utf8.decode s i).1 : Int) > 122)) = !lowB (s.data.toList.getD i 0) ∧ (lowB (s.data.toList.getD i 0) = true → (Utf8.decode s i).2 = 1) := by
 rw [get_data s i h]
 by_cases hb : (s[i]'h).toNat < 128
 ·rw [decode_ascii s i h hb]
  refine ⟨?_, fun _ => rfl⟩
  unfold lowB
  rw [Bool.not_and, ← decide_not, ← decide_not]
  congr 1 <;> exact decide_eq_decide.2 (by omega)
 ·have h2 := (decode_high s i h (by omega)).1
  have hl : lowB (s[i]'h) = false := by unfold lowB; rw [decide_eq_false (p := (s[i]'h).toNat ≤ 122) (by omega), Bool.and_false]
  rw [hl]
  refine ⟨?_, fun h => by cases h⟩
  rw [decide_eq_true (p := ((Utf8.decode s i).1 : Int) > 122) (by omega), Bool.or_true]
  rfl
theorem goodP_0 {l : List TGroup} (h : goodP l = 0) : 1 ≤ l.length ∧ l.length ≤ 4 := by
 unfold goodP at h
 cases h1 : l.length == 0 with
 | true => rw [h1] at h; cases h
 | false =>
  rw [h1] at h
  cases h2 : decide (4 < l.length) with
  | true => rw [h2] at h; cases h
  | false =>
   have := of_decide_eq_false h2
   have h3 : l.length ≠ 0 := by simpa using h1
   omega
theorem goodPs_at (l : List TGroup) (k : Nat) (seen : List ByteArray) : (∀ j, j < k → j < l.length → (nameB (l.getD j (dflt TC.group)).name && polB (l.getD j (dflt TC.group)).policy) = true ∧ (seen ++ (l.take j).map (·.name)).any (fun s => s == (l.getD j (dflt TC.group)).name) = false) →
  goodPs seen l = goodPs (seen ++ (l.take k).map (·.name)) (l.drop k) := by
 induction l generalizing k seen with
 | nil => intro _; simp [goodPs]
 | cons g r ih =>
  intro h
  cases k with
  | zero => simp
  | succ k =>
   obtain ⟨h1, h2⟩ := h 0 (Nat.succ_pos _) (Nat.succ_pos _)
   have h1' : (nameB g.name && polB g.policy) = true := h1
   have h2' : seen.any (fun s => s == g.name) = false := by simpa using h2
   rw [goodPs, h1', h2', Bool.not_true, cond_false, cond_false]
   rw [ih k (seen ++ [g.name]) (fun j hj hl => by
    have := h (j + 1) (by omega) (by simpa using hl)
    simpa [List.append_assoc] using this)]
   simp [List.append_assoc]
def mapAt (l : List TGroup) : Nat → List (ByteArray × Int)
 | 0 => []
 | i + 1 => updM (mapAt l i) (l.getD i (dflt TC.group)).1 (IntKind.i64.wrap (findM (mapAt l i) (l.getD i (dflt TC.group)).1 + 1))
def stopG (l : List TGroup) (i : Nat) : Bool := !(nameB (l.getD i (dflt TC.group)).1 && polB (l.getD i (dflt TC.group)).2) || ((l.take i).map (·.name)).any (fun s => s == (l.getD i (dflt TC.group)).1)
theorem take_names (l : List TGroup) (i : Nat) (h : i < l.length) : (l.take (i + 1)).map (·.name) = (l.take i).map (·.name) ++ [(l.getD i (dflt TC.group)).1] := by
 rw [List.take_add_one, List.getD_eq_getElem?_getD, List.getElem?_eq_getElem h, List.map_append]
 rfl
theorem find_mapAt (l : List TGroup) : ∀ (i : Nat), i ≤ l.length → (∀ j, j < i → stopG l j = false) → ∀ x, findM (mapAt l i) x = bif ((l.take i).map (·.name)).any (fun s => s == x) then 1 else 0
 | 0, _, _, x => by simp [mapAt, findM]
 | i + 1, hi, hs, x => by
  have ih := find_mapAt l i (by omega) (fun j hj => hs j (by omega))
  have h := hs i (Nat.lt_succ_self i)
  unfold stopG at h
  have h2 := (Bool.or_eq_false_iff.1 h).2
  unfold mapAt
  rw [find_upd, ih, h2, take_names l i (by omega), List.any_append, ih]
  by_cases hx : x = (l.getD i (dflt TC.group)).1
  ·subst hx
   rw [if_pos rfl]
   simp
   decide
  ·rw [if_neg hx]
   have : ([(l.getD i (dflt TC.group)).1].any fun s => s == x) = false := by
    simp only [List.any_cons, List.any_nil, Bool.or_false]
    exact beq_eq_false_iff_ne.2 fun e => hx e.symm
   rw [this, Bool.or_false]
end Go.Proofs.YtbhonfgbmkppiaaDoor
namespace Go.Proofs.YtbhonfgbmkppiaaDoor
open Go.RowKit
abbrev policy_named_l0_X : Type := ByteArray × Nat
def policy_named_l0_T (x : policy_named_l0_X) : St := ⟨36, 2, [(26, .own 1 0)], [(1, some (.sit x.1 x.2))]⟩
def policy_named_l0_un : St → Option policy_named_l0_X
 | ⟨36, 2, [(26, .own 1 0)], [(1, some (.sit z0 z1))]⟩ => some (z0, z1)
 | _ => none
theorem policy_named_l0_unok : ∀ s x, policy_named_l0_un s = some x → s = policy_named_l0_T x := fun s x h => by
 unfold policy_named_l0_un at h
 split at h
 ·cases h; rfl
 ·cases h
def policy_named_l0_S : Shape := ⟨2, 2, [26], [], [(1, 1)], [1], [2], [1]⟩
def policy_named_l0_E : Entry := ⟨[], [(1, 1)], [26], [1]⟩
def policy_named_l0_f_k1 (a0 : ByteArray) (a1 : Nat) : Bool := !!decide (a1 < a0.size)
def policy_named_l0_f_k0 (a0 : ByteArray) (a1 : Nat) : Bool := (policy_named_l0_f_k1 a0 a1) && (decide ((↑(Utf8.decode a0 a1).fst : Int) < (97 : Int)) || decide ((↑(Utf8.decode a0 a1).fst : Int) > (122 : Int)))
def policy_named_l0_f_1 (a0 : ByteArray) (a1 : Nat) : Nat := bif decide (a1 < a0.size) then a1 + (Utf8.decode a0 a1).snd else a1
def policy_named_l0_f_2 (a0 : ByteArray) (a1 : Nat) : Bool := (policy_named_l0_f_k1 a0 a1) && !(policy_named_l0_f_k0 a0 a1)
def policy_named_l0_f_6 (a0 : ByteArray) (a1 : Nat) : Nat := bif decide (a1 < a0.size) then a1 + (Utf8.decode a0 a1).snd else a1
def policy_named_l0_f_9 (a0 : ByteArray) (a1 : Nat) : Nat := bif decide (a1 < a0.size) then a1 + (Utf8.decode a0 a1).snd else a1
def policy_named_l0_next (x : policy_named_l0_X) : policy_named_l0_X := (x.1, policy_named_l0_f_1 x.1 x.2)
def policy_named_l0_goes (x : policy_named_l0_X) : Cnd := some (policy_named_l0_f_2 x.1 x.2)
def policy_named_l0_psA (x : policy_named_l0_X) : List Prop := [((policy_named_l0_f_k1 x.1 x.2) = true → decide (x.2 < x.1.size) = true)]
def policy_named_l0_ps (_x : policy_named_l0_X) : List Prop := []
def policy_named_l0_outs (x : policy_named_l0_X) : Outs := [(some 0, some (!decide (x.2 < x.1.size)), ⟨36, 2, [(2, .dead)], [(1, some (.sit x.1 (policy_named_l0_f_6 x.1 x.2)))]⟩), (none, some ((policy_named_l0_f_k0 x.1 x.2)), ⟨36, 2, [(2, .v (.bool (false)))], [(1, some (.sit x.1 (policy_named_l0_f_9 x.1 x.2)))]⟩)]
def policy_named_l0_fuel (x : policy_named_l0_X) : Nat := x.1.size - x.2
def policy_named_l0_run (x : policy_named_l0_X) : policy_named_l0_X := iterX policy_named_l0_next policy_named_l0_goes (policy_named_l0_fuel x) x
theorem policy_named_l0_ev (a0 : ByteArray) (a1 : Nat) : roundE (envT Cf L0) 9 (loopAt Tryd.prog 87 0) policy_named_l0_S (policy_named_l0_T (a0, a1)) = some (policy_named_l0_psA (a0, a1), policy_named_l0_outs (a0, a1), policy_named_l0_goes (a0, a1), policy_named_l0_T (policy_named_l0_next (a0, a1))) := by kernel_rfl
theorem policy_named_l0_hA (a0 : ByteArray) (a1 : Nat) (_hp : ∀ p ∈ policy_named_l0_ps (a0, a1), p) : ∀ p ∈ policy_named_l0_psA (a0, a1), p := by
 have n0 : ((policy_named_l0_f_k1 a0 a1) = true → decide (a1 < a0.size) = true) := by intro h; exact (Bool.not_not _).symm.trans h
 exact (needs_cons n0 needs_nil)
noncomputable def policy_named_l0_row := rowL (envT Cf L0) (loopAt Tryd.prog 87 0) policy_named_l0_S policy_named_l0_E policy_named_l0_un policy_named_l0_fuel policy_named_l0_next policy_named_l0_goes policy_named_l0_ps policy_named_l0_outs
theorem policy_named_l0_rok : ∀ s b ps outs, policy_named_l0_row s = some (b, ps, outs) → Wf s ⟨ps, outs, none⟩ ∧ LoopOk (envT C0 L0) b s ps outs :=
 rowP_ok (T := policy_named_l0_T) Cf_ok L0_ok (u := 9) (by kernel_rfl) (by decide) (fun ⟨a0, a1⟩ => policy_named_l0_ev a0 a1) (fun ⟨a0, a1⟩ => policy_named_l0_hA a0 a1) policy_named_l0_unok (fun _ => okOuts_ok (n := 36) rfl) fun _ _ => rfl
noncomputable def policy_named_l0_L := addLp 0 policy_named_l0_row L0
theorem policy_named_l0_Lok : LpOk policy_named_l0_L := addLp_ok policy_named_l0_rok L0_ok
def policy_named_k0 (a0 : TGroup) : Bool := a0.1.toList == (ByteArray.mk #[]).toList || decide ((↑a0.1.size : Int) > (12 : Int)) || a0.2 != (1 : Int) && a0.2 != (2 : Int)
def policy_named_0 (a0 : TGroup) : Bool := bif (policy_named_k0 a0) then false else bif policy_named_l0_f_k0 (policy_named_l0_run (a0.1, (0 : Nat))).fst (policy_named_l0_run (a0.1, (0 : Nat))).snd then false else true
def policy_named_r (a0 : TGroup) : A := .v (.bool (policy_named_0 a0))
def policy_named_o (_a0 : TGroup) : Objs := []
def policy_named_ps (a0 : TGroup) : List Prop := [((!(policy_named_k0 a0)) = true → needX policy_named_l0_next policy_named_l0_goes policy_named_l0_ps (policy_named_l0_fuel (a0.1, (0 : Nat))) (a0.1, (0 : Nat)))]
theorem policy_named_ev (a0 : TGroup) : evF (envT Cf policy_named_l0_L) 9 87 [valA .group a0] 0 [] = some (1, policy_named_r a0, 0, policy_named_o a0, [((!(policy_named_k0 a0)) = true → loopAt Tryd.prog (87 : FuncId) (0 : Nat) = loopAt Tryd.prog (87 : FuncId) (0 : Nat)), ((!(policy_named_k0 a0)) = true → needX policy_named_l0_next policy_named_l0_goes policy_named_l0_ps (policy_named_l0_fuel (a0.1, (0 : Nat))) (a0.1, (0 : Nat)))]) := by kernel_rfl
theorem policy_named_c (a0 : TGroup) (hp : ∀ p ∈ policy_named_ps a0, p) : CallOk Tryd.prog 87 [valA .group a0] 0 [] 1 (policy_named_r a0) 0 (policy_named_o a0) := by
 have n0 : ((!(policy_named_k0 a0)) = true → loopAt Tryd.prog (87 : FuncId) (0 : Nat) = loopAt Tryd.prog (87 : FuncId) (0 : Nat)) := by intros; rfl
 have n1 := N0 hp
 exact evF_ok (envP_ok Cf_ok policy_named_l0_Lok) (policy_named_ev a0) (needs_cons n0 (needs_cons n1 needs_nil))
def policy_named_r2 (a0 : TGroup) : A := .v (.bool (nameB a0.name && polB a0.policy))
def policy_named_o2 (_a0 : TGroup) : Objs := []
def policy_named_ps2 (_a0 : TGroup) : List Prop := []
theorem policy_named_eq (g : TGroup) : (∀ p ∈ policy_named_ps g, p) ∧ policy_named_0 g = (nameB g.name && polB g.policy) := by
 have hk0 : ∀ i, policy_named_l0_f_k0 g.1 i = (decide (i < g.1.size) && !lowB (g.1.data.toList.getD i 0)) := fun i => by
  unfold policy_named_l0_f_k0 policy_named_l0_f_k1
  rw [nn]
  by_cases h : i < g.1.size
  ·rw [decide_eq_true h, Bool.true_and, Bool.true_and]; exact (rune_low g.1 i h).1
  ·rw [decide_eq_false h]; rfl
 obtain ⟨h1, k, hk, hx, hs, hst⟩ := scan (fun i => ((g.1, i) : ByteArray × Nat)) g.1.size (fun i => !lowB (g.1.data.toList.getD i 0)) policy_named_l0_next policy_named_l0_goes policy_named_l0_ps (policy_named_l0_fuel (g.1, 0)) (g.1, 0) rfl (Nat.le_refl _)
  (fun i _ _ => by
   show ((!!decide (i < g.1.size)) && !policy_named_l0_f_k0 g.1 i) = _
   rw [hk0, nn]
   cases decide (i < g.1.size) <;> rfl)
  (fun i hi hj => by
   show (g.1, (bif decide (i < g.1.size) then i + (Utf8.decode g.1 i).snd else i)) = (g.1, i + 1)
   have h2 := hj i (Nat.lt_succ_self i)
   rw [decide_eq_true hi, cond_true, (rune_low g.1 i hi).2 (by simpa using h2)])
  (fun _ _ _ => needs_nil)
 refine ⟨needs_cons (fun _ => h1) needs_nil, ?_⟩
 have hr : policy_named_l0_run (g.1, 0) = (g.1, k) := hx
 have ha : g.1.data.toList.all lowB = decide (¬ k < g.1.size) := by
  have := all_scan g.1.data.toList 0 lowB k (by rw [size_data]; exact hk) (fun j hj => by simpa using hs j hj) (fun h => by rw [size_data] at h; simpa using hst h)
  rw [size_data] at this
  exact this
 unfold policy_named_0
 rw [hr]
 show (bif policy_named_k0 g then false else bif policy_named_l0_f_k0 g.1 k then false else true) = _
 rw [hk0]
 unfold policy_named_k0 nameB polB
 rw [noB_eq]
 show _ = (g.1.data.toList.all lowB && (decide (1 ≤ g.1.size) && decide (g.1.size ≤ 12)) && (g.2 == 1 || g.2 == 2))
 rw [ha]
 have e1 : (g.1.size == 0) = !decide (1 ≤ g.1.size) := beq0 _
 have e2 : decide ((g.1.size : Int) > 12) = !decide (g.1.size ≤ 12) := by
  rw [← decide_not]; exact decide_eq_decide.2 (by generalize g.1.size = m; omega)
 have e3 : (g.2 != 1 && g.2 != 2) = !(g.2 == 1 || g.2 == 2) := by simp [bne]
 rw [e1, e2, e3]
 by_cases h : k < g.1.size
 ·have := hst h
  rw [this, decide_eq_true h, decide_eq_false (not_not_intro h)]
  simp
 ·rw [decide_eq_false h, decide_eq_true h]
  cases decide (1 ≤ g.1.size) <;> cases decide (g.1.size ≤ 12) <;> cases (g.2 == 1 || g.2 == 2) <;> rfl
theorem policy_named_c2 (a0 : TGroup) (_hp : ∀ p ∈ policy_named_ps2 a0, p) : CallOk Tryd.prog 87 [valA .group a0] 0 [] 1 (policy_named_r2 a0) 0 (policy_named_o2 a0) := by
 have h := policy_named_c a0 (policy_named_eq a0).1
 unfold policy_named_r at h
 rw [(policy_named_eq a0).2] at h
 exact h
def policy_named_t : List A → Nat → Objs → Option CRes := rowK [.t .group] 0 policy_named_r2 policy_named_o2 policy_named_ps2
theorem policy_named_tok : TOk Tryd.prog 87 policy_named_t := rowK_ok (ks := [.t .group]) policy_named_c2
noncomputable def Ch_1 := addC 87 policy_named_t Cf
theorem Ch_1_ok : COk Tryd.prog Ch_1 := addC_ok policy_named_tok Cf_ok
abbrev policy_Good_l1_X : Type := (List TGroup) × Int × Int × (List (U .str × U .i64))
def policy_Good_l1_T (x : policy_Good_l1_X) : St := ⟨35, 1, [(3, .mp 0), (15, .sl .group x.1), (16, .v (.int .i64 x.2.1)), (17, .v (.int .i64 x.2.2.1))], [(0, some (.map .str .i64 x.2.2.2))]⟩
def policy_Good_l1_un : St → Option policy_Good_l1_X
 | ⟨35, 1, [(3, .mp 0), (15, .sl .group z0), (16, .v (.int .i64 z1)), (17, .v (.int .i64 z2))], [(0, some (.map .str .i64 z3))]⟩ => some (z0, z1, z2, z3)
 | _ => none
theorem policy_Good_l1_unok : ∀ s x, policy_Good_l1_un s = some x → s = policy_Good_l1_T x := fun s x h => by
 unfold policy_Good_l1_un at h
 split at h
 ·cases h; rfl
 ·cases h
def policy_Good_l1_S : Shape := ⟨1, 1, [3, 15, 16, 17], [], [(0, 0)], [0], [2], [0]⟩
def policy_Good_l1_E : Entry := ⟨[], [(0, 0)], [3, 15, 16, 17], [0]⟩
def policy_Good_l1_f_k1 (a0 : List TGroup) (_a1 : Int) (a2 : Int) (a3 : List (U .str × U .i64)) : List (ByteArray × Int) := updM a3 (a0.getD a2.toNat (dflt TC.group)).1 (IntKind.i64.wrap (findM a3 (a0.getD a2.toNat (dflt TC.group)).1 + (1 : Int)))
def policy_Good_l1_f_k0 (a0 : List TGroup) (a1 : Int) (a2 : Int) (a3 : List (U .str × U .i64)) : Bool := !!decide (a2 < a1) && (!(nameB (a0.getD a2.toNat (dflt TC.group)).1 && polB (a0.getD a2.toNat (dflt TC.group)).2) || decide (findM (policy_Good_l1_f_k1 a0 a1 a2 a3) (a0.getD a2.toNat (dflt TC.group)).1 > (1 : Int)))
def policy_Good_l1_f_3 (a0 : List TGroup) (a1 : Int) (a2 : Int) (a3 : List (U .str × U .i64)) : List (U .str × U .i64) := (policy_Good_l1_f_k1 a0 a1 a2 a3)
def policy_Good_l1_f_4 (a0 : List TGroup) (a1 : Int) (a2 : Int) (a3 : List (U .str × U .i64)) : Bool := !!decide (a2 < a1) && !(policy_Good_l1_f_k0 a0 a1 a2 a3)
def policy_Good_l1_f_9 (a0 : List TGroup) (_a1 : Int) (a2 : Int) (_a3 : List (U .str × U .i64)) : Int := bif !(nameB (a0.getD a2.toNat (dflt TC.group)).1 && polB (a0.getD a2.toNat (dflt TC.group)).2) then (2 : Int) else (70 : Int)
def policy_Good_l1_f_10 (a0 : List TGroup) (a1 : Int) (a2 : Int) (a3 : List (U .str × U .i64)) : List (U .str × U .i64) := bif !(nameB (a0.getD a2.toNat (dflt TC.group)).1 && polB (a0.getD a2.toNat (dflt TC.group)).2) then a3 else (policy_Good_l1_f_k1 a0 a1 a2 a3)
def policy_Good_l1_next (x : policy_Good_l1_X) : policy_Good_l1_X := (x.1, x.2.1, IntKind.i64.wrap (x.2.2.1 + (1 : Int)), policy_Good_l1_f_3 x.1 x.2.1 x.2.2.1 x.2.2.2)
def policy_Good_l1_goes (x : policy_Good_l1_X) : Cnd := some (policy_Good_l1_f_4 x.1 x.2.1 x.2.2.1 x.2.2.2)
def policy_Good_l1_psA (x : policy_Good_l1_X) : List Prop := [((!!decide (x.2.2.1 < x.2.1)) = true → (0 : Int) ≤ x.2.2.1 ∧ x.2.2.1 < (↑x.1.length : Int))]
abbrev policy_Good_l1_ps : policy_Good_l1_X → List Prop := policy_Good_l1_psA
def policy_Good_l1_outs (x : policy_Good_l1_X) : Outs := [(some 1, some (!decide (x.2.2.1 < x.2.1)), ⟨35, 1, [(2, .dead)], [(0, some (.map .str .i64 x.2.2.2))]⟩), (none, some ((policy_Good_l1_f_k0 x.1 x.2.1 x.2.2.1 x.2.2.2)), ⟨35, 2, [(2, .v (.int .i64 (policy_Good_l1_f_9 x.1 x.2.1 x.2.2.1 x.2.2.2)))], [(0, some (.map .str .i64 (policy_Good_l1_f_10 x.1 x.2.1 x.2.2.1 x.2.2.2)))]⟩)]
def policy_Good_l1_fuel (x : policy_Good_l1_X) : Nat := (x.2.1 - x.2.2.1).toNat
def policy_Good_l1_run (x : policy_Good_l1_X) : policy_Good_l1_X := iterX policy_Good_l1_next policy_Good_l1_goes (policy_Good_l1_fuel x) x
theorem policy_Good_l1_ev (a0 : List TGroup) (a1 : Int) (a2 : Int) (a3 : List (U .str × U .i64)) : roundE (envT Ch_1 L0) 9 (loopAt Tryd.prog 50 1) policy_Good_l1_S (policy_Good_l1_T (a0, a1, a2, a3)) = some (policy_Good_l1_psA (a0, a1, a2, a3), policy_Good_l1_outs (a0, a1, a2, a3), policy_Good_l1_goes (a0, a1, a2, a3), policy_Good_l1_T (policy_Good_l1_next (a0, a1, a2, a3))) := by kernel_rfl
theorem policy_Good_l1_hA (a0 : List TGroup) (a1 : Int) (a2 : Int) (a3 : List (U .str × U .i64)) (hp : ∀ p ∈ policy_Good_l1_ps (a0, a1, a2, a3), p) : ∀ p ∈ policy_Good_l1_psA (a0, a1, a2, a3), p := hp
noncomputable def policy_Good_l1_row := rowL (envT Ch_1 L0) (loopAt Tryd.prog 50 1) policy_Good_l1_S policy_Good_l1_E policy_Good_l1_un policy_Good_l1_fuel policy_Good_l1_next policy_Good_l1_goes policy_Good_l1_ps policy_Good_l1_outs
theorem policy_Good_l1_rok : ∀ s b ps outs, policy_Good_l1_row s = some (b, ps, outs) → Wf s ⟨ps, outs, none⟩ ∧ LoopOk (envT C0 L0) b s ps outs :=
 rowP_ok (T := policy_Good_l1_T) Ch_1_ok L0_ok (u := 9) (by kernel_rfl) (by decide) (fun ⟨a0, a1, a2, a3⟩ => policy_Good_l1_ev a0 a1 a2 a3) (fun ⟨a0, a1, a2, a3⟩ => policy_Good_l1_hA a0 a1 a2 a3) policy_Good_l1_unok (fun _ => okOuts_ok (n := 35) rfl) fun _ _ => rfl
noncomputable def policy_Good_l1_L := addLp 1 policy_Good_l1_row L0
theorem policy_Good_l1_Lok : LpOk policy_Good_l1_L := addLp_ok policy_Good_l1_rok L0_ok
def policy_Good_k4 (a0 : List TGroup) : Bool := (↑a0.length : Int) == (0 : Int) || decide ((↑a0.length : Int) > (4 : Int))
def policy_Good_k3 (a0 : List TGroup) : List TGroup := (policy_Good_l1_run (a0, (↑a0.length : Int), (0 : Int), [])).fst
def policy_Good_k2 (a0 : List TGroup) : Int := (policy_Good_l1_run (a0, (↑a0.length : Int), (0 : Int), [])).snd.fst
def policy_Good_k1 (a0 : List TGroup) : List (U TC.str × U TC.i64) := (policy_Good_l1_run (a0, (↑a0.length : Int), (0 : Int), [])).snd.snd.snd
def policy_Good_k0 (a0 : List TGroup) : Int := (policy_Good_l1_run (a0, (↑a0.length : Int), (0 : Int), [])).snd.snd.fst
def policy_Good_0 (a0 : List TGroup) : Int := bif (policy_Good_k4 a0) then bif (↑a0.length : Int) == (0 : Int) then (2 : Int) else (3 : Int) else bif policy_Good_l1_f_k0 (policy_Good_k3 a0) (policy_Good_k2 a0) (policy_Good_k0 a0) (policy_Good_k1 a0) then policy_Good_l1_f_9 (policy_Good_k3 a0) (policy_Good_k2 a0) (policy_Good_k0 a0) (policy_Good_k1 a0) else (0 : Int)
def policy_Good_r (a0 : List TGroup) : A := .v (.int .i64 (policy_Good_0 a0))
def policy_Good_o (_a0 : List TGroup) : Objs := []
def policy_Good_ps (a0 : List TGroup) : List Prop := [((!(policy_Good_k4 a0)) = true → needX policy_Good_l1_next policy_Good_l1_goes policy_Good_l1_ps (policy_Good_l1_fuel (a0, (↑a0.length : Int), (0 : Int), [])) (a0, (↑a0.length : Int), (0 : Int), []))]
theorem policy_Good_ev (a0 : List TGroup) : evF (envT Ch_1 policy_Good_l1_L) 9 50 [.sl .group a0] 0 [] = some (1, policy_Good_r a0, 0, policy_Good_o a0, [((!(policy_Good_k4 a0)) = true → loopAt Tryd.prog (50 : FuncId) (1 : Nat) = loopAt Tryd.prog (50 : FuncId) (1 : Nat)), ((!(policy_Good_k4 a0)) = true → needX policy_Good_l1_next policy_Good_l1_goes policy_Good_l1_ps (policy_Good_l1_fuel (a0, (↑a0.length : Int), (0 : Int), [])) (a0, (↑a0.length : Int), (0 : Int), []))]) := by kernel_rfl
theorem policy_Good_c (a0 : List TGroup) (hp : ∀ p ∈ policy_Good_ps a0, p) : CallOk Tryd.prog 50 [.sl .group a0] 0 [] 1 (policy_Good_r a0) 0 (policy_Good_o a0) := by
 have n0 : ((!(policy_Good_k4 a0)) = true → loopAt Tryd.prog (50 : FuncId) (1 : Nat) = loopAt Tryd.prog (50 : FuncId) (1 : Nat)) := by intros; rfl
 have n1 := N0 hp
 exact evF_ok (envP_ok Ch_1_ok policy_Good_l1_Lok) (policy_Good_ev a0) (needs_cons n0 (needs_cons n1 needs_nil))
def policy_Good_r2 (a0 : List TGroup) : A := .v (.int .i64 (goodP a0))
def policy_Good_o2 (_a0 : List TGroup) : Objs := []
def policy_Good_ps2 (_a0 : List TGroup) : List Prop := []
theorem policy_Good_eq (l : List TGroup) : (∀ p ∈ policy_Good_ps l, p) ∧ policy_Good_0 l = goodP l := by
 have e4 : policy_Good_k4 l = (l.length == 0 || decide (4 < l.length)) := by
  unfold policy_Good_k4
  rw [beq0i]
  congr 1
  exact dgt l.length 4
 have main : policy_Good_k4 l = false → needX policy_Good_l1_next policy_Good_l1_goes policy_Good_l1_ps (policy_Good_l1_fuel (l, (l.length : Int), 0, [])) (l, (l.length : Int), 0, []) ∧ policy_Good_0 l = goodP l := fun h4 => by
  have hn4 : l.length ≤ 4 := by
   rw [e4] at h4
   have := of_decide_eq_false (Bool.or_eq_false_iff.1 h4).2
   omega
  have hk0 : ∀ i, i ≤ l.length → (∀ j, j < i → stopG l j = false) → policy_Good_l1_f_k0 l (l.length : Int) (i : Int) (mapAt l i) = (decide (i < l.length) && stopG l i) := fun i hi hs => by
   unfold policy_Good_l1_f_k0 policy_Good_l1_f_k1
   rw [Int.toNat_natCast, find_upd, if_pos rfl, find_mapAt l i hi hs, nn, dlt]
   unfold stopG
   congr 2
   cases ((l.take i).map (·.name)).any (fun s => s == (l.getD i (dflt TC.group)).1) <;> rfl
  obtain ⟨h1, k, hk, hx, hs, hst⟩ := scan (fun i => ((l, (l.length : Int), (i : Int), mapAt l i) : policy_Good_l1_X)) l.length (stopG l) policy_Good_l1_next policy_Good_l1_goes policy_Good_l1_ps (policy_Good_l1_fuel (l, (l.length : Int), 0, [])) ((l, (l.length : Int), 0, []) : policy_Good_l1_X) rfl
   (by show l.length ≤ ((l.length : Int) - 0).toNat; omega)
   (fun i hi hs => by
    show ((!!decide ((i : Int) < (l.length : Int))) && !policy_Good_l1_f_k0 l (l.length : Int) (i : Int) (mapAt l i)) = _
    rw [hk0 i hi hs, nn, dlt]
    cases decide (i < l.length) <;> rfl)
   (fun i hi hs => by
    show (l, (l.length : Int), IntKind.i64.wrap ((i : Int) + 1), policy_Good_l1_f_k1 l (l.length : Int) (i : Int) (mapAt l i)) = (l, (l.length : Int), ((i + 1 : Nat) : Int), mapAt l (i + 1))
    rw [wsucc (by omega)]
    unfold policy_Good_l1_f_k1
    rw [Int.toNat_natCast]
    rfl)
   (fun i hi hs => needs_cons (fun h => by
    have h' : (!!decide ((i : Int) < (l.length : Int))) = true := h
    rw [nn] at h'
    have := of_decide_eq_true h'
    show (0 : Int) ≤ (i : Int) ∧ (i : Int) < (l.length : Int)
    omega) needs_nil)
  refine ⟨h1, ?_⟩
  have hr : policy_Good_l1_run (l, (l.length : Int), 0, []) = (l, (l.length : Int), (k : Int), mapAt l k) := hx
  unfold policy_Good_0 policy_Good_k3 policy_Good_k2 policy_Good_k1 policy_Good_k0
  rw [hr, h4, cond_false]
  show (bif policy_Good_l1_f_k0 l (l.length : Int) (k : Int) (mapAt l k) then policy_Good_l1_f_9 l (l.length : Int) (k : Int) (mapAt l k) else 0) = _
  rw [hk0 k hk hs]
  rw [e4] at h4
  obtain ⟨h5, h6⟩ := Bool.or_eq_false_iff.1 h4
  unfold goodP
  rw [h5, h6, cond_false, cond_false, goodPs_at l k [] (fun j hj hl => by
   have := hs j hj
   unfold stopG at this
   obtain ⟨q1, q2⟩ := Bool.or_eq_false_iff.1 this
   exact ⟨by rw [Bool.not_eq_false'] at q1; exact q1, by simpa using q2⟩), List.nil_append]
  by_cases hkl : k < l.length
  ·have hst' := hst hkl
   rw [hst', decide_eq_true hkl, Bool.and_true, cond_true]
   have hd : l.drop k = l.getD k (dflt TC.group) :: l.drop (k + 1) := by
    rw [List.getD_eq_getElem?_getD, List.getElem?_eq_getElem hkl, Option.getD_some]
    exact List.drop_eq_getElem_cons hkl
   rw [hd]
   unfold goodPs policy_Good_l1_f_9
   rw [Int.toNat_natCast]
   unfold stopG at hst'
   show (bif !(nameB (l.getD k (dflt TC.group)).1 && polB (l.getD k (dflt TC.group)).2) then (2 : Int) else 70) = bif !(nameB (l.getD k (dflt TC.group)).1 && polB (l.getD k (dflt TC.group)).2) then 2 else _
   cases hq : !(nameB (l.getD k (dflt TC.group)).1 && polB (l.getD k (dflt TC.group)).2) with
   | true => rfl
   | false =>
    rw [hq, Bool.false_or] at hst'
    have hst2 : ((l.take k).map (·.name)).any (fun s => s == (l.getD k (dflt TC.group)).name) = true := hst'
    rw [cond_false, cond_false, hst2]
    rfl
  ·rw [decide_eq_false hkl, Bool.false_and, cond_false, List.drop_eq_nil_of_le (by omega)]
   rfl
 cases h4 : policy_Good_k4 l with
 | false =>
  obtain ⟨g1, g2⟩ := main h4
  exact ⟨needs_cons (fun _ => g1) needs_nil, g2⟩
 | true =>
  refine ⟨needs_cons (fun h => by rw [h4] at h; cases h) needs_nil, ?_⟩
  unfold policy_Good_0 goodP
  rw [h4, cond_true, beq0i]
  rw [e4] at h4
  cases h5 : l.length == 0 with
  | true => rfl
  | false =>
   rw [h5, Bool.false_or] at h4
   rw [h4]
   rfl
theorem policy_Good_c2 (a0 : List TGroup) (_hp : ∀ p ∈ policy_Good_ps2 a0, p) : CallOk Tryd.prog 50 [.sl .group a0] 0 [] 1 (policy_Good_r2 a0) 0 (policy_Good_o2 a0) := by
 have h := policy_Good_c a0 (policy_Good_eq a0).1
 unfold policy_Good_r at h
 rw [(policy_Good_eq a0).2] at h
 exact h
def policy_Good_t : List A → Nat → Objs → Option CRes := rowK [.l .group] 0 policy_Good_r2 policy_Good_o2 policy_Good_ps2
theorem policy_Good_tok : TOk Tryd.prog 50 policy_Good_t := rowK_ok (ks := [.l .group]) policy_Good_c2
noncomputable def Ch_2 := addC 50 policy_Good_t Ch_1
theorem Ch_2_ok : COk Tryd.prog Ch_2 := addC_ok policy_Good_tok Ch_1_ok
noncomputable def Ch := Ch_2
theorem Ch_ok : COk Tryd.prog Ch := Ch_2_ok
end Go.Proofs.YtbhonfgbmkppiaaDoor
namespace Go.Proofs.YtbhonfgbmkppiaaDoor
open Go.RowKit Go.Shelf
attribute [local go_sem] Oper.semAt_some
def gV (g : TGroup) : Value := .agg #[.string g.name, .int .i64 g.policy]
def cV (c : TCell) : Value := .agg #[.int .i64 c.stamp.n, .int .i64 c.stamp.site, .int .i64 c.vec.a, .int .i64 c.vec.b, .bool c.gone, .string c.value, .int .i64 c.dead.a, .int .i64 c.dead.b]
structure KB (n₀ X : Nat) (W W' : World) : Prop where
 os : W'.os = W.os
 tape : W'.tape = W.tape
 output : W'.output = W.output
 size : W.heap.size ≤ W'.heap.size
 block : ∀ k, k < n₀ → k ≠ X → W'.heap[k]? = W.heap[k]?
theorem KB.refl (n₀ X : Nat) (W : World) : KB n₀ X W W := ⟨rfl, rfl, rfl, Nat.le_refl _, fun _ _ _ => rfl⟩
theorem KB.trans {n₀ X : Nat} {A B C : World} (h : KB n₀ X A B) (k : KB n₀ X B C) : KB n₀ X A C :=
 ⟨k.os.trans h.os, k.tape.trans h.tape, k.output.trans h.output, Nat.le_trans h.size k.size, fun i h1 h2 => (k.block i h1 h2).trans (h.block i h1 h2)⟩
theorem KB.of_below {n₀ X : Nat} {A B : World} (h : Below n₀ A B) : KB n₀ X A B := ⟨h.os, h.tape, h.output, h.size, fun k hk _ => h.block k hk⟩
theorem KB.cell {n₀ X : Nat} {A B : World} {p : Addr} (h : KB n₀ X A B) (hp : p.block < n₀) (hx : p.block ≠ X) : B.cell? p = A.cell? p := World.cell?_of_block (h.block _ hp hx)
theorem KB.putObj {n₀ X : Nat} {w : World} (hn : n₀ ≤ w.heap.size) (W : World) (l : Nat) (o o' : Obj) (hl : w.heap.size ≤ l) (h : W.heap[l]? = some o) (h1 : o.isCells = false) (h2 : o.isWalk = false) : KB n₀ X W (W.putObj l o') :=
 KB.of_below (belowK_b hn W l o o' hl h h1 h2)
def GsAt (n₀ X : Nat) (W : World) (b off : Nat) (l : List TGroup) : Prop := (b < n₀ ∧ b ≠ X) ∧ ∀ j g, l[j]? = some g → W.cell? ⟨b, off + j * 2, none⟩ = some (.string g.name) ∧ W.cell? ⟨b, off + j * 2 + 1, none⟩ = some (.int .i64 g.policy)
def CsAt (n₀ X : Nat) (W : World) (b off : Nat) (l : List TCell) : Prop := (b < n₀ ∧ b ≠ X) ∧ ∀ j c, l[j]? = some c → W.cell? ⟨b, off + j * 8, none⟩ = some (.int .i64 c.stamp.n) ∧ W.cell? ⟨b, off + j * 8 + 1, none⟩ = some (.int .i64 c.stamp.site) ∧ W.cell? ⟨b, off + j * 8 + 2, none⟩ = some (.int .i64 c.vec.a) ∧ W.cell? ⟨b, off + j * 8 + 3, none⟩ = some (.int .i64 c.vec.b) ∧ W.cell? ⟨b, off + j * 8 + 4, none⟩ = some (.bool c.gone) ∧ W.cell? ⟨b, off + j * 8 + 5, none⟩ = some (.string c.value) ∧ W.cell? ⟨b, off + j * 8 + 6, none⟩ = some (.int .i64 c.dead.a) ∧ W.cell? ⟨b, off + j * 8 + 7, none⟩ = some (.int .i64 c.dead.b)
theorem GsAt.kept {n₀ X : Nat} {W W' : World} {b off : Nat} {l : List TGroup} (h : GsAt n₀ X W b off l) (hb : KB n₀ X W W') : GsAt n₀ X W' b off l :=
 ⟨h.1, fun j g hg => ⟨(hb.cell (p := ⟨b, _, none⟩) h.1.1 h.1.2).trans (h.2 j g hg).1, (hb.cell (p := ⟨b, _, none⟩) h.1.1 h.1.2).trans (h.2 j g hg).2⟩⟩
theorem CsAt.kept {n₀ X : Nat} {W W' : World} {b off : Nat} {l : List TCell} (h : CsAt n₀ X W b off l) (hb : KB n₀ X W W') : CsAt n₀ X W' b off l := by
 refine ⟨h.1, fun j c hc => ?_⟩
 obtain ⟨h0, h1, h2, h3, h4, h5, h6, h7⟩ := h.2 j c hc
 have k : ∀ o, W'.cell? ⟨b, o, none⟩ = W.cell? ⟨b, o, none⟩ := fun o => hb.cell (p := ⟨b, o, none⟩) h.1.1 h.1.2
 exact ⟨(k _).trans h0, (k _).trans h1, (k _).trans h2, (k _).trans h3, (k _).trans h4, (k _).trans h5, (k _).trans h6, (k _).trans h7⟩
theorem grown_none {W W' : World} (h : Below W.heap.size W W') : W.grownBy W' none := ⟨h.os, h.tape, h.output, h.size, fun k hk _ => h.block k hk⟩
def encP (x : TGroup × TCell) : Array Value := #[gV x.1, cV x.2]
theorem zip_take {α β : Type} (l : List α) (r : List β) (k : Nat) (x : α) (y : β) (hx : l[k]? = some x) (hy : r[k]? = some y) : (l.zip r).take (k + 1) = (l.zip r).take k ++ [(x, y)] := by
 rw [List.take_add_one, (List.getElem?_zip_eq_some (z := (x, y))).2 ⟨hx, hy⟩]
 rfl
set_option maxHeartbeats 4000000 in
theorem parts1_in (n : Nat) (hn : 1 ≤ n) (l B2 B3 n₀ b off cap b' off' cap' X : Nat) (gs : List TGroup) (cs : List TCell) (hlen : cs.length = gs.length) (hl4 : gs.length ≤ 4)
    (J Jx : List (TGroup × TCell) → World → Prop) (n1 : Nat) (hn1 : n₀ ≤ n1)
    (hJa : AbidesFrom n1 J)
    (hY : ∀ pre x W, J pre W → pre.length < gs.length → YieldAt Fence.wide (n - 1) Tryd.prog l (encP x) W fun e W' =>
      (e = .returned (.bool true) ∧ J (pre ++ [x]) W' ∧ KB n₀ X W W') ∨ (e = .returned (.bool false) ∧ Jx (pre ++ [x]) W'))
    (W : World) (hW1 : n1 = W.heap.size) (h2 : W.cell? ⟨B2, 0, none⟩ = some (.slice (some ⟨b, off, none⟩) gs.length cap)) (h3 : W.cell? ⟨B3, 1, none⟩ = some (.slice (some ⟨b', off', none⟩) cs.length cap')) (hB2 : B2 < n₀ ∧ B2 ≠ X) (hB3 : B3 < n₀ ∧ B3 ≠ X)
    (hg : GsAt n₀ X W b off gs) (hc : CsAt n₀ X W b' off' cs) (h0 : J [] W) :
    CallsIn Fence.wide n Tryd.prog 115 #[.func (.yield l) #[] #[], .pointer (some ⟨B2, 0, none⟩), .pointer (some ⟨B3, 0, none⟩)] W fun e W' => (∃ v, e = .returned v) ∧
      ((∃ ys, ys = gs.zip cs ∧ J ys W') ∨ (∃ pre, (∃ k, k ≤ gs.length ∧ pre = (gs.zip cs).take k) ∧ Jx pre W')) := by
  refine callsIn_of_wp Tryd.func115 rfl trivial ?_ rfl
  simp only [Tryd.ntmps115, List.size_toArray, List.length_cons, List.length_nil, Nat.reduceAdd, Nat.reduceSub, Array.replicate_succ, Array.replicate_zero, List.push_toArray, List.append_toArray, List.nil_append, List.cons_append]
  gi_wp2
  gi_loopw [8] (fun i wr => ∃ k : Nat, k ≤ gs.length ∧ i = .int .i64 k ∧ J ((gs.zip cs).take k) wr ∧ KB n₀ X W wr ∧ W.heap.size ≤ wr.heap.size) (fun i _ => gs.length - (intOf i).toNat)
  case atStart => exact ⟨0, Nat.zero_le _, rfl, h0, KB.refl _ _ _, Nat.le_refl _⟩
  case round =>
    obtain ⟨k, hk, rfl, hJs, hnx, hsz⟩ := hrel
    by_cases hlt : k < gs.length
    · have hlt' : k < cs.length := by omega
      obtain ⟨hg1, hg2⟩ := (hg.kept hnx).2 k gs[k] (List.getElem?_eq_getElem hlt)
      have h2' := (hnx.cell (p := ⟨B2, 0, none⟩) hB2.1 hB2.2).trans h2
      gi_wp2
      have hb3 : Below wr.heap.size wr (wr.alloc (.cells #[.string gs[k].name, .int .i64 gs[k].policy] 147)) := (Below.refl _ wr).alloc (Nat.le_refl _) _
      have hv : wr.heap.size = wr.heap.size := rfl
      have hn := World.alloc_heap_new wr (.cells #[.string gs[k].name, .int .i64 gs[k].policy] 147)
      generalize wr.alloc (.cells #[.string gs[k].name, .int .i64 gs[k].policy] 147) = W3 at hb3 hn ⊢
      have hb4 : KB n₀ X wr W3 := KB.of_below (hb3.mono (Nat.le_trans hn1 (by rw [hW1]; exact hsz)))
      have hb5 : KB n₀ X W3 W3.drew := KB.of_below ((Below.refl _ W3).drew)
      obtain ⟨hc0, hc1, hc2, hc3, hc4, hc5, hc6, hc7⟩ := ((hc.kept hnx).kept hb4).2 k cs[k] (List.getElem?_eq_getElem hlt')
      have h3' := ((hnx.trans hb4).cell (p := ⟨B3, 1, none⟩) hB3.1 hB3.2).trans h3
      have hz : ((gs.zip cs).take k).length < gs.length := by rw [List.length_take, List.length_zip]; omega
      have hJ3 : J ((gs.zip cs).take k) W3.drew := hJa _ wr _ none hJs (grown_none hb3.drew) (fun r e => by cases e)
      obtain ⟨fn, tmps, assign, body, hy, hR⟩ := hY _ (gs[k], cs[k]) _ hJ3 hz
      have hR2 : RoundIn Fence.wide (n - 1) Tryd.prog l fn tmps assign body W3.drew fun e W' => ∃ q : Bool, e = .returned (.bool q) ∧ (q = true → J ((gs.zip cs).take (k + 1)) W' ∧ KB n₀ X wr W') ∧ (q = false → Jx ((gs.zip cs).take (k + 1)) W') := by
        refine hR.mono ?_
        rw [← zip_take gs cs k gs[k] cs[k] (List.getElem?_eq_getElem hlt) (List.getElem?_eq_getElem hlt')]
        rintro e W' (⟨rfl, h1, h2⟩ | ⟨rfl, h1⟩)
        · exact ⟨true, rfl, ⟨fun _ => ⟨h1, (hb4.trans hb5).trans h2⟩, fun h => by cases h⟩⟩
        · exact ⟨false, rfl, ⟨fun h => (by cases h), fun _ => h1⟩⟩
      clear hR
      have hm : Tryd.prog.follows .mixedOrders = true := by kernel_rfl
      dsimp only [encP, gV, cV] at hy
      obtain ⟨hn0, hn1'⟩ := cb2 hn
      gi_region_with_o (refine hR2.mono ?_; rintro e W4 ⟨q, rfl, hq1, hq2⟩)
      all_goals (cases q)
      all_goals gi_wp2
      all_goals first
        | (refine bodyPost_ret (results_none rfl _ _ _) rfl ?_; exact ⟨⟨_, rfl⟩, .inr ⟨_, ⟨k + 1, by omega, rfl⟩, hq2 (by trivial)⟩⟩)
        | (obtain ⟨q1, q2⟩ := hq1 (by trivial)
           exact ⟨⟨k + 1, by omega, rfl, q1, hnx.trans q2, Nat.le_trans hsz q2.size⟩, by simp [intOf]; omega⟩)
    · obtain rfl : k = gs.length := by omega
      gi_wp2
      go_end0
      exact ⟨⟨_, rfl⟩, .inl ⟨_, rfl, by rw [List.take_of_length_le (by rw [List.length_zip]; omega)] at hJs; exact hJs⟩⟩
set_option maxHeartbeats 1000000 in
theorem parts_in (n : Nat) (a : Option Addr) (len cap : Nat) (v1 : Value) (key : ByteArray) (w : World) :
  CallsIn Fence.wide n Tryd.prog 84 #[.slice a len cap, .agg #[.string key, v1]] w fun e w' => e = .returned (.func (.func 115) #[] #[.pointer (some ⟨w.heap.size, 0, none⟩), .pointer (some ⟨w.heap.size + 1, 0, none⟩)]) ∧ w' = (w.alloc (.cells #[.slice a len cap] 27)).alloc (.cells #[.string key, v1] 38) := by
 refine callsIn_of_wp Tryd.func84 rfl trivial ?_ rfl
 simp only [Tryd.ntmps84, List.size_toArray, List.length_cons, List.length_nil, Nat.reduceAdd, Nat.reduceSub, Array.replicate_succ, Array.replicate_zero, List.push_toArray, List.append_toArray, List.nil_append, List.cons_append]
 gi_wp2
 go_ret
 exact ⟨rfl, rfl⟩
theorem parts_stops (n : Nat) (hn : 1 ≤ n) (B2 B3 n₀ X b off cap b' off' cap' : Nat) (gs : List TGroup) (cs : List TCell) (hlen : cs.length = gs.length) (hl4 : gs.length ≤ 4) (w : World) (hn₀ : n₀ ≤ w.heap.size)
  (h2 : w.cell? ⟨B2, 0, none⟩ = some (.slice (some ⟨b, off, none⟩) gs.length cap)) (h3 : w.cell? ⟨B3, 1, none⟩ = some (.slice (some ⟨b', off', none⟩) cs.length cap')) (hB2 : B2 < n₀ ∧ B2 ≠ X) (hB3 : B3 < n₀ ∧ B3 ≠ X)
  (hg : GsAt n₀ X w b off gs) (hc : CsAt n₀ X w b' off' cs) :
  SeqStopsK Fence.wide n Tryd.prog 115 #[.pointer (some ⟨B2, 0, none⟩), .pointer (some ⟨B3, 0, none⟩)] encP (KB n₀ X) (fun ys => ys = gs.zip cs) (fun pre => ∃ k, k ≤ gs.length ∧ pre = (gs.zip cs).take k) gs.length w := fun l J Jx W hW hJ _ hY h0 => by
 have hk : KB n₀ X w W := KB.of_below (hW.mono hn₀)
 exact parts1_in n hn l B2 B3 n₀ b off cap b' off' cap' X gs cs hlen hl4 J Jx W.heap.size (Nat.le_trans hn₀ hW.size) hJ hY W rfl ((hk.cell (p := ⟨B2, 0, none⟩) hB2.1 hB2.2).trans h2) ((hk.cell (p := ⟨B3, 1, none⟩) hB3.1 hB3.2).trans h3) hB2 hB3 (hg.kept hk) (hc.kept hk) h0
def goodR (p : Int) (G : Int → TCell → Bool) (gs : List TGroup) (key : ByteArray) (cs : List TCell) : Int :=
 if (p != 0) = true then p else if key.toList.isEmpty = true then 2 else if 32 < (key.size : Int) then 3 else if ((cs.length : Int) != (gs.length : Int)) = true then 100 else bif (gs.zip cs).all (fun x => G x.1.policy x.2) then 0 else 80
theorem blk_own {β : Type} (B : Nat) (cs : Array Value) (t : TypeId) : Own (fun (_ : β) W => W.heap[B]? = some (.cells cs t (0, 0))) := fun s W W' row hs hg hr => by
 refine (hg.block B (blk_lt hs) fun e => ?_).trans hs
 obtain ⟨o, h1, h2⟩ := hr B e.symm
 rw [hs] at h1
 cases h1
 cases h2
theorem keepsFrom_below (B : Nat) {W W' : World} (h : Below W.heap.size W W') : KeepsFrom B W W' := ⟨h.size, fun k _ _ hk _ => (h.block k (blk_lt hk)).trans hk⟩
theorem ownFrom_size {β : Type} (B n : Nat) : OwnFrom B (fun (_ : β) W => n ≤ W.heap.size) := fun _ _ _ _ hs hg _ => Nat.le_trans hs hg.size
set_option maxHeartbeats 4000000 in
theorem rgood_calls (w : World) (a0 a1 : Option Addr) (gs : List TGroup) (cs : List TCell) (key : ByteArray) (cap0 cap1 : Nat) (p : Int) (G : Int → TCell → Bool)
    (hP : ∀ W, Below w.heap.size w W → Calls Tryd.prog 50 #[.slice a0 gs.length cap0] W fun e W' => e = .returned (.int .i64 p) ∧ Below W.heap.size W W')
    (hp0 : p = 0 → 1 ≤ gs.length ∧ gs.length ≤ 4)
    (hC : ∀ (q : Int) (c : TCell) W, Below w.heap.size w W → Calls Tryd.prog 109 #[.int .i64 q, cV c] W fun e W' => e = .returned (.bool (G q c)) ∧ Below W.heap.size W W')
    (hG : 0 < gs.length → ∃ b off, a0 = some ⟨b, off, none⟩ ∧ GsAt w.heap.size w.heap.size w b off gs)
    (hS : 0 < cs.length → ∃ b off, a1 = some ⟨b, off, none⟩ ∧ CsAt w.heap.size w.heap.size w b off cs) :
    Calls Tryd.prog 71 #[.slice a0 gs.length cap0, .agg #[.string key, .slice a1 cs.length cap1]] w fun e W' => e = .returned (.int .i64 (goodR p G gs key cs)) ∧ Below w.heap.size w W' := by
  refine (callsIn_wide (n := 5)).1 ?_
  refine callsIn_of_wp_marks Tryd.func71 rfl trivial ?_ rfl
  simp only [Tryd.ntmps71, List.size_toArray, List.length_cons, List.length_nil, Nat.reduceAdd, Nat.reduceSub, Array.replicate_succ, Array.replicate_zero, List.push_toArray, List.append_toArray, List.nil_append, List.cons_append]
  have hw2 : Below w.heap.size w ((w.alloc (.cells #[.string key, .slice a1 cs.length cap1] 38)).alloc (.cells #[.int .i64 0] 31)) := ((Below.refl _ w).alloc (Nat.le_refl _) _).alloc (by simp) _
  have hr1 := alloc_old (.cells #[.int .i64 0] 31) (alloc_new (w := w) (.cells #[.string key, .slice a1 cs.length cap1] 38) rfl)
  have hr2 := alloc_new (w := w.alloc (.cells #[.string key, .slice a1 cs.length cap1] 38)) (.cells #[.int .i64 0] 31) (n := w.heap.size + 1) (by simp)
  gi_wp2_with (first
    | (refine ⟨trivial, ?_⟩; gi_at_call 50; refine (callsIn_wide.2 (hP _ hw2)).mono ?_; rintro e W1 ⟨rfl, hb1⟩; have hx1 := blk_next hr1 hb1; have hx2 := blk_next hr2 hb1; obtain ⟨c0, c1⟩ := cb2 hx1; have d0 := cb1 hx2; have f0 := fb1 hx2; have hB1 : Below w.heap.size w W1 := hw2.trans (hb1.mono (by simp; omega)); clear hr1 hr2 hb1)
    | (refine ⟨trivial, ?_⟩; gi_at_call 84; refine (parts_in _ _ _ _ _ _ _).mono ?_; rintro e W2 ⟨rfl, rfl⟩))
  · have h1 : (p != 0) = true := by assumption
    have e : goodR p G gs key cs = p := by unfold goodR; rw [if_pos h1]
    have hc := cb1 (set_same (i := 0) hx2 (.int .i64 p))
    exact ⟨.int .i64 p, by simp [results, Tryd.f71, go_sem, hc], by rw [e], hB1.setCell (p := ⟨w.heap.size + 1, 0, none⟩) (by simp) _⟩
  · have h1 : (p != 0) = false := by assumption
    have h2 : key.toList.isEmpty = true := by assumption
    have e : goodR p G gs key cs = 2 := by unfold goodR; rw [if_neg (by rw [h1]; simp), if_pos h2]
    have hc := cb1 (set_same (i := 0) hx2 (.int .i64 2))
    exact ⟨.int .i64 2, by simp [results, Tryd.f71, go_sem, hc], by rw [e], hB1.setCell (p := ⟨w.heap.size + 1, 0, none⟩) (by simp) _⟩
  · have h1 : (p != 0) = false := by assumption
    have h2 : key.toList.isEmpty = false := by assumption
    have h3 : 32 < (key.size : Int) := by assumption
    have e : goodR p G gs key cs = 3 := by unfold goodR; rw [if_neg (by rw [h1]; simp), if_neg (by rw [h2]; simp), if_pos h3]
    have hc := cb1 (set_same (i := 0) hx2 (.int .i64 3))
    exact ⟨.int .i64 3, by simp [results, Tryd.f71, go_sem, hc], by rw [e], hB1.setCell (p := ⟨w.heap.size + 1, 0, none⟩) (by simp) _⟩
  · have h1 : (p != 0) = false := by assumption
    have h2 : key.toList.isEmpty = false := by assumption
    have h3 : (key.size : Int) ≤ 32 := by assumption
    have h4 : ((cs.length : Int) != (gs.length : Int)) = true := by assumption
    have e : goodR p G gs key cs = 100 := by unfold goodR; rw [if_neg (by rw [h1]; simp), if_neg (by rw [h2]; simp), if_neg (by omega), if_pos h4]
    have hc := cb1 (set_same (i := 0) hx2 (.int .i64 100))
    exact ⟨.int .i64 100, by simp [results, Tryd.f71, go_sem, hc], by rw [e], hB1.setCell (p := ⟨w.heap.size + 1, 0, none⟩) (by simp) _⟩
  have h1 : (p != 0) = false := by assumption
  have h2 : key.toList.isEmpty = false := by assumption
  have h3 : (key.size : Int) ≤ 32 := by assumption
  have h4 : ((cs.length : Int) != (gs.length : Int)) = false := by assumption
  have e : goodR p G gs key cs = bif (gs.zip cs).all (fun x => G x.1.policy x.2) then 0 else 80 := by unfold goodR; rw [if_neg (by rw [h1]; simp), if_neg (by rw [h2]; simp), if_neg (by omega), if_neg (by rw [h4]; simp)]
  have hp : p = 0 := by simpa using h1
  clear h1
  subst hp
  have hlen : cs.length = gs.length := by have : (cs.length : Int) = gs.length := by simpa using h4
                                          omega
  obtain ⟨hl1, hl4⟩ := hp0 rfl
  obtain ⟨b, off, rfl, hg⟩ := hG (by omega)
  obtain ⟨b', off', rfl, hc⟩ := hS (by omega)
  have hW2 : Below W1.heap.size W1 ((W1.alloc (.cells #[.slice (some ⟨b, off, none⟩) gs.length cap0] 27)).alloc (.cells #[.string key, .slice (some ⟨b', off', none⟩) cs.length cap1] 38)) := ((Below.refl _ W1).alloc (Nat.le_refl _) _).alloc (by simp) _
  have hy2 := alloc_old (.cells #[.string key, .slice (some ⟨b', off', none⟩) cs.length cap1] 38) (alloc_new (w := W1) (.cells #[.slice (some ⟨b, off, none⟩) gs.length cap0] 27) rfl)
  have hy3 := alloc_new (w := W1.alloc (.cells #[.slice (some ⟨b, off, none⟩) gs.length cap0] 27)) (.cells #[.string key, .slice (some ⟨b', off', none⟩) cs.length cap1] 38) (n := W1.heap.size + 1) (by simp)
  have hz2 := blk_next hx2 hW2
  have hs1 := blk_lt hx2
  have hs2 := blk_lt hy3
  have hB2 := hB1.trans (hW2.mono hB1.size)
  generalize (W1.alloc (.cells #[.slice (some ⟨b, off, none⟩) gs.length cap0] 27)).alloc (.cells #[.string key, .slice (some ⟨b', off', none⟩) cs.length cap1] 38) = W2 at hW2 hy2 hy3 hz2 hs2 hB2 ⊢
  have hg2 : GsAt W2.heap.size W2.heap.size W2 b off gs := ⟨⟨by have := hg.1.1; omega, by have := hg.1.1; omega⟩, fun j g hj => ⟨(hB2.cell (p := ⟨b, _, none⟩) hg.1.1).trans (hg.2 j g hj).1, (hB2.cell (p := ⟨b, _, none⟩) hg.1.1).trans (hg.2 j g hj).2⟩⟩
  have hc2 : CsAt W2.heap.size W2.heap.size W2 b' off' cs := by
    refine ⟨⟨by have := hc.1.1; omega, by have := hc.1.1; omega⟩, fun j c hj => ?_⟩
    have k : ∀ o, W2.cell? ⟨b', o, none⟩ = w.cell? ⟨b', o, none⟩ := fun o => hB2.cell (p := ⟨b', o, none⟩) hc.1.1
    simp only [k]
    exact hc.2 j c hj
  refine wpIn_rangeFunc_ownH (F := Fence.wide) rfl (by omega) (gf := 115) (lb := #[.pointer (some ⟨W1.heap.size, 0, none⟩), .pointer (some ⟨W1.heap.size + 1, 0, none⟩)]) rfl trivial (enters_of Tryd.func115 (by kernel_rfl) rfl)
    (parts_stops _ (by omega) W1.heap.size (W1.heap.size + 1) W2.heap.size W2.heap.size b off cap0 b' off' cap1 gs cs hlen hl4 W2 (Nat.le_refl _) (cb1 hy2) (cb2 hy3).2 ⟨by omega, by omega⟩ ⟨by omega, by omega⟩ hg2 hc2)
    KB.trans (KB.putObj (Nat.le_refl _)) (Below.refl _ _) (fun _ => rfl)
    (fun pre W => ((∀ x ∈ pre, G x.1.policy x.2 = true) ∧ W.heap[w.heap.size + 1]? = some (.cells #[.int .i64 0] 31 (0, 0))) ∧ Below w.heap.size w W ∧ W2.heap.size ≤ W.heap.size)
    (fun c pre W => ((c = .ret ∧ ∃ x ∈ pre, G x.1.policy x.2 = false) ∧ W.heap[w.heap.size + 1]? = some (.cells #[.int .i64 80] 31 (0, 0))) ∧ Below w.heap.size w W ∧ W2.heap.size ≤ W.heap.size)
    (OwnFrom.and (OwnFrom.and (ownFrom_pure _ _) (Own.from (blk_own _ _ _) _)) (OwnFrom.and (ownFrom_below (Nat.le_refl _) hB2.size) (ownFrom_size _ _)))
    (fun c => OwnFrom.and (OwnFrom.and (ownFrom_pure _ _) (Own.from (blk_own _ _ _) _)) (OwnFrom.and (ownFrom_below (Nat.le_refl _) hB2.size) (ownFrom_size _ _)))
    ⟨⟨by simp, hz2⟩, hB2, Nat.le_refl _⟩
    (fun x a' W => (∃ B6 B7, a' = { tmps := #[Value.slice (some ⟨b, off, none⟩) gs.length cap0, Value.agg #[Value.string key, Value.slice (some ⟨b', off', none⟩) cs.length cap1], undef,
          Value.pointer (some { block := w.heap.size, off := 0 }),
          Value.pointer (some { block := w.heap.size + 1, off := 0 }), Value.int IntKind.i64 0, Value.pointer (some ⟨B6, 0, none⟩), Value.pointer (some ⟨B7, 0, none⟩),
          Value.slice (some ⟨b, off, none⟩) gs.length cap0, Value.int IntKind.i64 0, Value.int IntKind.i64 0, Value.bool false, undef,
          Value.bool false, Value.pointer (some { block := w.heap.size, off := 0 }), Value.string key, Value.bool false,
          Value.bool (decide (32 < (key.size : Int))), Value.pointer (some { block := w.heap.size, off := 0 }),
          Value.string key, Value.int IntKind.i64 key.size, Value.bool (decide (32 < (key.size : Int))), Value.bool false,
          Value.pointer (some { block := w.heap.size, off := 1 }), Value.slice (some ⟨b', off', none⟩) cs.length cap1,
          Value.int IntKind.i64 cs.length, Value.slice (some ⟨b, off, none⟩) gs.length cap0, Value.int IntKind.i64 gs.length,
          Value.bool false, Value.slice (some ⟨b, off, none⟩) gs.length cap0, Value.agg #[Value.string key, Value.slice (some ⟨b', off', none⟩) cs.length cap1],
          Value.func (Fn.func 115) #[] #[Value.pointer (some { block := W1.heap.size, off := 0 }), Value.pointer (some { block := W1.heap.size + 1, off := 0 })],
          gV x.1, cV x.2, undef, undef, undef, undef, undef], defers := [] } ∧
        (W.heap[B6]? = some (.cells #[.string x.1.name, .int .i64 x.1.policy] 147 (0, 0)) ∧ W.heap[B7]? = some (.cells #[.int .i64 x.2.stamp.n, .int .i64 x.2.stamp.site, .int .i64 x.2.vec.a, .int .i64 x.2.vec.b, .bool x.2.gone, .string x.2.value, .int .i64 x.2.dead.a, .int .i64 x.2.dead.b] 99 (0, 0)))))
    (fun x a' => Own.from (fun s X Y row hs hgr hr => by
      obtain ⟨B6, B7, e1, e2, e3⟩ := hs
      exact ⟨B6, B7, e1, blk_own B6 _ _ s X Y row e2 hgr hr, blk_own B7 _ _ s X Y row e3 hgr hr⟩) _) ?assign ?body ?done ?stop
  case assign =>
    rintro l pre x W K ⟨⟨i1, i2⟩, i3, i4⟩ hK
    clear hlen h4
    dsimp only [encP, gV, cV] at hK ⊢
    gi_wp2
    have hb : Below W.heap.size W ((W.alloc (.cells #[.string x.1.name, .int .i64 x.1.policy] 147)).alloc (.cells #[.int .i64 x.2.stamp.n, .int .i64 x.2.stamp.site, .int .i64 x.2.vec.a, .int .i64 x.2.vec.b, .bool x.2.gone, .string x.2.value, .int .i64 x.2.dead.a, .int .i64 x.2.dead.b] 99)) := ((Below.refl _ W).alloc (Nat.le_refl _) _).alloc (by simp) _
    exact hK _ _ (keepsFrom_below _ hb) (KB.of_below (hb.mono i4)) ⟨⟨i1, blk_next i2 hb⟩, i3.trans (hb.mono i3.size), Nat.le_trans i4 hb.size⟩ ⟨W.heap.size, W.heap.size + 1, rfl, alloc_old _ (alloc_new _ rfl), alloc_new _ (by simp)⟩
  case body =>
    rintro l pre x a' W hl hr ⟨⟨i1, i2⟩, i3, i5⟩ ⟨B6, B7, rfl, e6, e7⟩ hlt
    obtain ⟨k0, k1⟩ := cb2 e6
    obtain ⟨m0, m1, m2, m3, m4, m5, m6, m7⟩ := cb8 e7
    have d0 := cb1 i2
    have f0 := fb1 i2
    cases hGx : G x.1.policy x.2 with
    | true =>
      gi_wp2_with (refine ⟨trivial, ?_⟩; gi_at_call 109; refine (CallsIn.inRound l (callsIn_wide.2 (hC x.1.policy x.2 _ i3))).mono ?_; rw [hGx]; rintro e W' ⟨rfl, hb⟩)
      exact ⟨keepsFrom_below _ hb, KB.of_below (hb.mono i5), ⟨fun y hy => (List.mem_append.1 hy).elim (i1 y) (fun e => by simp at e; subst e; exact hGx), blk_next i2 hb⟩, i3.trans (hb.mono i3.size), Nat.le_trans i5 hb.size⟩
    | false =>
      gi_wp2_with (refine ⟨trivial, ?_⟩; gi_at_call 109; refine (CallsIn.inRound l (callsIn_wide.2 (hC x.1.policy x.2 _ i3))).mono ?_; rw [hGx]; rintro e W' ⟨rfl, hb⟩; have i4 := blk_next i2 hb; have d4 := cb1 i4; have f4 := fb1 i4)
      exact ⟨(keepsFrom_below _ hb).trans ((KeepsOthers.setCell _ _ _).from _), ⟨⟨rfl, x, by simp, hGx⟩, set_same (i := 0) i4 (.int .i64 80)⟩, (i3.trans (hb.mono i3.size)).setCell (p := ⟨w.heap.size + 1, 0, none⟩) (by simp) _, Nat.le_trans i5 (by rw [set_size]; exact hb.size)⟩
  case done =>
    rintro D ys W hD rfl ⟨⟨i1, i2⟩, i3, i5⟩ hK
    have d0 := cb1 i2
    have f0 := fb1 i2
    gi_wp2
    have hK' := (KeepsOthers.setCell W ⟨w.heap.size + 1, 0, none⟩ (.int .i64 0)).same D _ hK rfl
    refine ⟨by simp, .inl ⟨_, _, rfl, run_takeDeferred hK', ?_⟩⟩
    have hc5 := cell_kept (World.cell?_setCell_same' W ⟨w.heap.size + 1, 0, none⟩ (.int .i64 0) (by rw [d0]; rfl)) (grownBy_putObj' _ D (.deferred none)) (fun r e => by cases e; exact ⟨_, hK', rfl⟩)
    refine ⟨.int .i64 0, ?_, ?_, (i3.setCell (p := ⟨w.heap.size + 1, 0, none⟩) (by simp) _).trans (belowK_b (w := w) (Nat.le_refl _) _ D _ _ (by have := hB2.size; omega) hK' rfl rfl)⟩
    · simp [results, Tryd.f71, go_sem, hc5]
    · rw [List.all_eq_true.2 (fun x hx => i1 x hx)]; rfl
  case stop =>
    rintro D c pre W hD ⟨k, hk, rfl⟩ ⟨⟨⟨rfl, x, hx, hGx⟩, i2⟩, i3, i5⟩ hK
    gi_wp2
    refine ⟨by simp, .inl ⟨_, _, rfl, run_takeDeferred hK, ?_⟩⟩
    have hc5 := cell_kept (cb1 i2) (grownBy_putObj' _ D (.deferred none)) (fun r e => by cases e; exact ⟨_, hK, rfl⟩)
    refine ⟨.int .i64 80, ?_, ?_, i3.trans (belowK_b (w := w) (Nat.le_refl _) W D _ _ (by have := hB2.size; omega) hK rfl rfl)⟩
    · simp [results, Tryd.f71, go_sem, hc5]
    · have : (gs.zip cs).all (fun x => G x.1.policy x.2) = false := by
        cases ha : (gs.zip cs).all (fun x => G x.1.policy x.2) with
        | false => rfl
        | true => have := (List.all_eq_true.1 ha) x (List.mem_of_mem_take hx); rw [hGx] at this; cases this
      rw [this]; rfl
end Go.Proofs.YtbhonfgbmkppiaaDoor
namespace Go.Proofs.YtbhonfgbmkppiaaDoor
open Go.RowKit
def goodRow (l : List TGroup) (r : TRow) : Int := bif goodP l != 0 then goodP l else bif r.key.size == 0 then 2 else bif decide (32 < r.key.size) then 3 else bif r.cells.length != l.length then 100 else bif (l.zip r.cells).all (fun x => goodC x.1.policy x.2) then 0 else 80
def row_Good_r2 (a0 : List TGroup) (a1 : TRow) : A := .v (.int .i64 (goodRow a0 a1))
def row_Good_o2 (_a0 : List TGroup) (_a1 : TRow) : Objs := []
def row_Good_ps2 (_a0 : List TGroup) (_a1 : TRow) : List Prop := []
theorem isEmpty_size (k : ByteArray) : k.toList.isEmpty = (k.size == 0) := by
 rw [ByteArray.toList_eq, Bool.eq_iff_iff, List.isEmpty_iff, beq_iff_eq, ← size_data]
 exact ⟨fun h => by rw [h]; rfl, fun h => List.eq_nil_of_length_eq_zero h⟩
theorem goodR_eq (l : List TGroup) (key : ByteArray) (cs : List TCell) : goodR (goodP l) goodC l key cs = goodRow l ⟨key, cs⟩ := by
 unfold goodR goodRow
 rw [isEmpty_size]
 have e3 : decide (32 < ((key.size : Nat) : Int)) = decide (32 < key.size) := decide_eq_decide.2 (by omega)
 have e4 : (((cs.length : Nat) : Int) != (l.length : Int)) = (cs.length != l.length) := by
  rw [Bool.eq_iff_iff, bne_iff_ne, bne_iff_ne]; omega
 simp only [Bool.cond_eq_ite, e4, decide_eq_true_eq, show (32 < ((key.size : Nat) : Int)) = (32 < key.size) from propext (by omega)]
theorem spot_none {R : World} {ad : Addr} {v : Value} (h : R.cell? ad = some v) : ad = ⟨ad.block, ad.off, none⟩ := by
 cases ad with | mk b o s =>
 cases s with
 | none => rfl
 | some q =>
  exfalso
  unfold World.cell? at h
  cases hb : R.heap[b]? with
  | none => simp only [hb] at h; cases h
  | some ob => cases ob <;> simp [hb] at h
theorem add_num (b o k j : Nat) : ((⟨b, o, none⟩ : Addr).add k).add j = ⟨b, o + k + j, none⟩ := by
 rw [add_mk, add_mk]
section
variable {F : Nat → Prop} {N : Nm} {nx : Nat} {R : World}
theorem HC.at0 {l : List A} {b o k j : Nat} {x : Value} (h : HC F N nx R l ((⟨b, o, none⟩ : Addr).add k)) (hx : l[j]? = some (.v x)) : R.cell? ⟨b, o + k + j, none⟩ = some x := by
 obtain ⟨y, h1, h2⟩ := h j _ hx
 rw [add_num] at h1
 rw [h1, h2.v_inv]
theorem gs_at {gs : List TGroup} {v : Value} (hF : ∀ g, F g → g < R.heap.size) (h : Hv F N nx R (.sl .group gs) v) :
  ∃ a cap, v = .slice a gs.length cap ∧ (0 < gs.length → ∃ b off, a = some ⟨b, off, none⟩ ∧ GsAt R.heap.size R.heap.size R b off gs) := by
 obtain ⟨a, cap, e, _, h2⟩ := h.sl_inv
 refine ⟨a, cap, e, fun hn => ?_⟩
 obtain ⟨ad, rfl, hb, h3⟩ := h2 hn
 have hlt := hF _ hb
 obtain ⟨y, hy, _⟩ := h3 0 gs[0] (List.getElem?_eq_getElem hn) 0 (.v (.string gs[0].name)) rfl
 rw [Nat.zero_mul, add_zero, add_zero] at hy
 have hs := spot_none hy
 rw [hs] at h3 ⊢
 refine ⟨ad.block, ad.off, rfl, ⟨hlt, Nat.ne_of_lt hlt⟩, fun j g hj => ?_⟩
 have h4 := h3 j g hj
 exact ⟨h4.at0 (j := 0) (x := .string g.name) rfl, h4.at0 (j := 1) (x := .int .i64 g.policy) rfl⟩
theorem cs_at {cs : List TCell} {v : Value} (hF : ∀ g, F g → g < R.heap.size) (h : Hv F N nx R (.sl .cell cs) v) :
  ∃ a cap, v = .slice a cs.length cap ∧ (0 < cs.length → ∃ b off, a = some ⟨b, off, none⟩ ∧ CsAt R.heap.size R.heap.size R b off cs) := by
 obtain ⟨a, cap, e, _, h2⟩ := h.sl_inv
 refine ⟨a, cap, e, fun hn => ?_⟩
 obtain ⟨ad, rfl, hb, h3⟩ := h2 hn
 have hlt := hF _ hb
 obtain ⟨y, hy, _⟩ := h3 0 cs[0] (List.getElem?_eq_getElem hn) 0 (.v (.int .i64 cs[0].stamp.n)) rfl
 rw [Nat.zero_mul, add_zero, add_zero] at hy
 have hs := spot_none hy
 rw [hs] at h3 ⊢
 refine ⟨ad.block, ad.off, rfl, ⟨hlt, Nat.ne_of_lt hlt⟩, fun j c hj => ?_⟩
 have h4 := h3 j c hj
 exact ⟨h4.at0 (j := 0) (x := .int .i64 c.stamp.n) rfl, h4.at0 (j := 1) (x := .int .i64 c.stamp.site) rfl, h4.at0 (j := 2) (x := .int .i64 c.vec.a) rfl, h4.at0 (j := 3) (x := .int .i64 c.vec.b) rfl, h4.at0 (j := 4) (x := .bool c.gone) rfl, h4.at0 (j := 5) (x := .string c.value) rfl, h4.at0 (j := 6) (x := .int .i64 c.dead.a) rfl, h4.at0 (j := 7) (x := .int .i64 c.dead.b) rfl⟩
theorem HRel.bare (hF : ∀ g, F g → g < R.heap.size) (hg : GlobOk F R) : HRel F N 0 [] R := ⟨hF, fun _ _ h => (by cases h), fun _ _ _ h => (by cases h), fun _ _ _ _ _ h => (by cases h), hg⟩
end
theorem CallOk.plain {P : Program} {f : FuncId} {args : List A} {x : Value} (h : CallOk P f args 0 [] 1 (.v x) 0 []) {F : Nat → Prop} {N : Nm} {R : World} {vs : List Value} (hF : ∀ g, F g → g < R.heap.size) (hg : GlobOk F R) (hv : HL F N 0 R args vs) :
  Calls P f vs.toArray R fun e R' => e = .returned x ∧ Below R.heap.size R R' :=
 (h F N R vs (HRel.bare hF hg) hv).mono fun e R' ⟨y, F', N', e1, _, _, h4, h5⟩ => ⟨by rw [e1, h4.v_inv], h5 (Nat.le_refl _)⟩
theorem row_Good_c2 (a0 : List TGroup) (a1 : TRow) (_hp : ∀ p ∈ row_Good_ps2 a0 a1, p) : CallOk Tryd.prog 71 [.sl .group a0, valA .row a1] 0 [] 1 (row_Good_r2 a0 a1) 0 (row_Good_o2 a0 a1) := by
 intro F N R vs hR hv
 obtain ⟨v0, vs, rfl, h0, hv⟩ := hv.inv
 obtain ⟨v1, vs, rfl, h1, hv⟩ := hv.inv
 rw [hv.inv0]
 obtain ⟨us, rfl, h2⟩ := Hv.agg_inv (xs := [.v (.string a1.key), .sl .cell a1.cells]) h1
 clear h1
 have h1 := h2
 obtain ⟨u0, us, rfl, k0, h1⟩ := h1.inv
 obtain ⟨u1, us, rfl, k1, h1⟩ := h1.inv
 rw [h1.inv0]
 rw [k0.v_inv]
 obtain ⟨aa, cap0, rfl, g0⟩ := gs_at hR.flt h0
 obtain ⟨ab, cap1, rfl, g1⟩ := cs_at hR.flt k1
 refine (rgood_calls R aa ab a0 a1.cells a1.key cap0 cap1 (goodP a0) goodC ?_ goodP_0 ?_ g0 g1).mono ?_
 ·intro W hW
  exact (policy_Good_c2 a0 (fun _ h => by cases h)).plain (F := F) (N := N) (vs := [_]) (hR.grow hW).1.flt (hR.grow hW).1.gl (HL.cons (h0.step (hR.grow hW).2) HL.nil)
 ·intro q c W hW
  have h := (cell_Good_c q c (fun _ h => by cases h)).plain (F := F) (N := N) (R := W) (vs := [.int .i64 q, cV c]) (hR.grow hW).1.flt (hR.grow hW).1.gl (HL.cons (.v _) (HL.cons (.v _) HL.nil))
  rw [cell_Good_eq] at h
  exact h
 ·rintro e W ⟨rfl, hb⟩
  rw [goodR_eq]
  exact ⟨_, F, N, rfl, (hR.grow hb).1, Step.of_below hb, .v _, fun _ => hb⟩
def row_Good_t : List A → Nat → Objs → Option CRes := rowK [.l .group, .t .row] 0 row_Good_r2 row_Good_o2 row_Good_ps2
theorem row_Good_tok : TOk Tryd.prog 71 row_Good_t := rowK_ok (ks := [.l .group, .t .row]) row_Good_c2
noncomputable def Ci_1 := addC 71 row_Good_t Ch
theorem Ci_1_ok : COk Tryd.prog Ci_1 := addC_ok row_Good_tok Ch_ok
noncomputable def Ci := Ci_1
theorem Ci_ok : COk Tryd.prog Ci := Ci_1_ok
end Go.Proofs.YtbhonfgbmkppiaaDoor
namespace Go.Proofs.YtbhonfgbmkppiaaDoor
open Go.RowKit
theorem first_k : firstN [107] = 130 := by kernel_rfl
def isK (s : ByteArray) : Bool := match s.data.toList with
 | [x] => Nat.beq x.toNat 107
 | _ => false
theorem isK_eq {s : ByteArray} (h : isK s = true) : s.data.toList = [107] := by
 unfold isK at h
 split at h <;> first | (cases h; done) | skip
 rename_i x hx
 have : x.toNat = 107 := Nat.eq_of_beq_eq_true h
 rw [hx]
 congr 1
 exact UInt8.toNat_inj.1 this
def placeK : List A → Nat → Objs → Option CRes
 | [.v (.string s)], nx, o => bif isK s then some (1, .v (.int .i64 130), nx, o, []) else none
 | _, _, _ => none
theorem placeK_ok : TOk Tryd.prog 32 placeK := fun args nx o k x nx' o' ps h => by
 unfold placeK at h
 split at h <;> first | (cases h; done) | skip
 rename_i s
 cases hk : isK s with
 | false => rw [hk] at h; cases h
 | true =>
  rw [hk] at h
  cases h
  have e := isK_eq hk
  have h1 := merkle_place_c2 s (needs_cons (by rw [e]; decide) needs_nil)
  unfold merkle_place_r2 at h1
  rw [e, first_k] at h1
  have h2 := callOk_shift h1 (Nat.le_refl _) (by rfl) nx o
  exact ⟨fun _ => h2, [], rfl⟩
noncomputable def Cme0 := addC 32 placeK Ci
theorem Cme0_ok : COk Tryd.prog Cme0 := addC_ok placeK_ok Ci_ok
end Go.Proofs.YtbhonfgbmkppiaaDoor
namespace Go.Proofs.YtbhonfgbmkppiaaDoor
open Go.RowKit
noncomputable def Cmk1_1 := addC 31 (inl (envL Cme0) 1040 31) Cme0
theorem Cmk1_1_ok : COk Tryd.prog Cmk1_1 := addC_ok (inl_ok (envL_ok Cme0_ok) 1040 31) Cme0_ok
noncomputable def Cmk1_2 := addC 72 (inl (envL Cmk1_1) 1040 72) Cmk1_1
theorem Cmk1_2_ok : COk Tryd.prog Cmk1_2 := addC_ok (inl_ok (envL_ok Cmk1_1_ok) 1040 72) Cmk1_1_ok
noncomputable def Cmk1_3 := addC 116 (inl (envL Cmk1_2) 1040 116) Cmk1_2
theorem Cmk1_3_ok : COk Tryd.prog Cmk1_3 := addC_ok (inl_ok (envL_ok Cmk1_2_ok) 1040 116) Cmk1_2_ok
noncomputable def Cmk1_4 := addC 35 (inl (envL Cmk1_3) 1040 35) Cmk1_3
theorem Cmk1_4_ok : COk Tryd.prog Cmk1_4 := addC_ok (inl_ok (envL_ok Cmk1_3_ok) 1040 35) Cmk1_3_ok
noncomputable def Cmk1_5 := addC 36 (inl (envL Cmk1_4) 1040 36) Cmk1_4
theorem Cmk1_5_ok : COk Tryd.prog Cmk1_5 := addC_ok (inl_ok (envL_ok Cmk1_4_ok) 1040 36) Cmk1_4_ok
noncomputable def Cmk1_6 := addC 14 (inl (envL Cmk1_5) 1040 14) Cmk1_5
theorem Cmk1_6_ok : COk Tryd.prog Cmk1_6 := addC_ok (inl_ok (envL_ok Cmk1_5_ok) 1040 14) Cmk1_5_ok
noncomputable def Cmk1_7 := addC 41 (inl (envL Cmk1_6) 1040 41) Cmk1_6
theorem Cmk1_7_ok : COk Tryd.prog Cmk1_7 := addC_ok (inl_ok (envL_ok Cmk1_6_ok) 1040 41) Cmk1_6_ok
noncomputable def Cmk1_8 := addC 19 (inl (envL Cmk1_7) 1040 19) Cmk1_7
theorem Cmk1_8_ok : COk Tryd.prog Cmk1_8 := addC_ok (inl_ok (envL_ok Cmk1_7_ok) 1040 19) Cmk1_7_ok
noncomputable def Cmk1_9 := addC 11 (inl (envL Cmk1_8) 1040 11) Cmk1_8
theorem Cmk1_9_ok : COk Tryd.prog Cmk1_9 := addC_ok (inl_ok (envL_ok Cmk1_8_ok) 1040 11) Cmk1_8_ok
noncomputable def Cmk1_10 := addC 10 (inl (envL Cmk1_9) 1040 10) Cmk1_9
theorem Cmk1_10_ok : COk Tryd.prog Cmk1_10 := addC_ok (inl_ok (envL_ok Cmk1_9_ok) 1040 10) Cmk1_9_ok
noncomputable def Cmk1_11 := addC 37 (inl (envL Cmk1_10) 1040 37) Cmk1_10
theorem Cmk1_11_ok : COk Tryd.prog Cmk1_11 := addC_ok (inl_ok (envL_ok Cmk1_10_ok) 1040 37) Cmk1_10_ok
noncomputable def Cmk1_12 := addC 38 (inl (envL Cmk1_11) 1040 38) Cmk1_11
theorem Cmk1_12_ok : COk Tryd.prog Cmk1_12 := addC_ok (inl_ok (envL_ok Cmk1_11_ok) 1040 38) Cmk1_11_ok
noncomputable def Cmk1_13 := addC 15 (inl (envL Cmk1_12) 1040 15) Cmk1_12
theorem Cmk1_13_ok : COk Tryd.prog Cmk1_13 := addC_ok (inl_ok (envL_ok Cmk1_12_ok) 1040 15) Cmk1_12_ok
def l24_lives_r  : A := .v (.bool (true))
def l24_lives_o  : Objs := []
def l24_lives_ps  : List Prop := []
theorem l24_lives_ev  : evF (envT Cmk1_13 L0) 1040 9 [] 0 [] = some (1, l24_lives_r , 0, l24_lives_o , [(boundP (1 : Nat)), (boundP (1 : Nat)), (boundP (1 : Nat)), (true = true), (true = true), (true = true → true = true), (false = true → false = true), (true = true → true = true), (false = true → true = true), (false = true → false = true), (true = true), (true = true → true = true), (true = true → true = true), (false = true → false = true), (true = true → true = true), (false = true → true = true), (false = true → true = true), (false = true → false = true), (true = true), (true = true → true = true), (true = true → true = true), (false = true → false = true), (true = true → true = true), (false = true → true = true), (false = true → true = true), (false = true → false = true), (true = true), (boundP (1 : Nat)), (boundP (1 : Nat))]) := by kernel_rfl
theorem l24_lives_c  (_hp : ∀ p ∈ l24_lives_ps , p) : CallOk Tryd.prog 9 [] 0 [] 1 (l24_lives_r ) 0 (l24_lives_o ) := by
 have n0 : (boundP (1 : Nat)) := by first | rfl | decide +kernel
 have n3 : (true = true) := by first | rfl | decide +kernel
 have n5 : (true = true → true = true) := by first | rfl | decide +kernel
 have n6 : (false = true → false = true) := by first | rfl | decide +kernel
 have n8 : (false = true → true = true) := by first | rfl | decide +kernel
 exact evF_ok (envP_ok Cmk1_13_ok L0_ok) (l24_lives_ev ) (needs_cons n0 (needs_cons n0 (needs_cons n0 (needs_cons n3 (needs_cons n3 (needs_cons n5 (needs_cons n6 (needs_cons n5 (needs_cons n8 (needs_cons n6 (needs_cons n3 (needs_cons n5 (needs_cons n5 (needs_cons n6 (needs_cons n5 (needs_cons n8 (needs_cons n8 (needs_cons n6 (needs_cons n3 (needs_cons n5 (needs_cons n5 (needs_cons n6 (needs_cons n5 (needs_cons n8 (needs_cons n8 (needs_cons n6 (needs_cons n3 (needs_cons n0 (needs_cons n0 needs_nil)))))))))))))))))))))))))))))
def l24_lives_t : List A → Nat → Objs → Option CRes := rowK [] 0 l24_lives_r l24_lives_o l24_lives_ps
theorem l24_lives_tok : TOk Tryd.prog 9 l24_lives_t := rowK_ok (ks := []) l24_lives_c
end Go.Proofs.YtbhonfgbmkppiaaDoor
namespace Go.Proofs.YtbhonfgbmkppiaaDoor
open Go.RowKit
noncomputable def Cmk2_1 := addC 9 l24_lives_t Csq
theorem Cmk2_1_ok : COk Tryd.prog Cmk2_1 := addC_ok l24_lives_tok Csq_ok
def l24_MerklePaths_k3 (a0 : ByteArray) : List Int := [r24_Path_0 a0, r24_Path_1 a0]
def l24_MerklePaths_k2 (a0 : ByteArray) : List Int := [merkle_Path_0 a0, (firstN a0.data.toList).tmod (16 : Int)]
def l24_MerklePaths_k1 (a0 : ByteArray) : Bool := !(decide ((↑a0.size : Int) > (5000 : Int)) && true)
def l24_MerklePaths_k0 (a0 : ByteArray) : Bool := (l24_MerklePaths_k1 a0) && true
def l24_MerklePaths_0 (a0 : ByteArray) : Bool := bif (l24_MerklePaths_k0 a0) then r01_Ints_0 (l24_MerklePaths_k2 a0) (l24_MerklePaths_k3 a0) && true else bif (l24_MerklePaths_k1 a0) then true else true
def l24_MerklePaths_r (a0 : ByteArray) : A := .v (.bool (l24_MerklePaths_0 a0))
def l24_MerklePaths_o (_a0 : ByteArray) : Objs := []
def l24_MerklePaths_ps (a0 : ByteArray) : List Prop := [((l24_MerklePaths_k1 a0) = true → a0.data.toList.length ≤ (137438953472 : Nat)), ((l24_MerklePaths_k0 a0) = true → a0.data.toList.length ≤ (137438953472 : Nat)), (false = true → a0.data.toList.length ≤ (137438953472 : Nat)), ((l24_MerklePaths_k0 a0) = true → false = false → (!r01_Ints_k0 (l24_MerklePaths_k2 a0) (l24_MerklePaths_k3 a0)) = true → needX r01_Ints_l0_next r01_Ints_l0_goes r01_Ints_l0_ps (2 : Nat) ((l24_MerklePaths_k2 a0), (l24_MerklePaths_k3 a0), (0 : Int)))]
theorem l24_MerklePaths_ev (a0 : ByteArray) : evF (envT Cmk2_1 L0) 9 3 [valA .str a0] 0 [] = some (1, l24_MerklePaths_r a0, 0, l24_MerklePaths_o a0, [((l24_MerklePaths_k1 a0) = true → a0.data.toList.length ≤ (137438953472 : Nat)), ((l24_MerklePaths_k0 a0) = true → a0.data.toList.length ≤ (137438953472 : Nat)), (false = true → a0.data.toList.length ≤ (137438953472 : Nat)), ((l24_MerklePaths_k0 a0) = true → false = false → (!r01_Ints_k0 (l24_MerklePaths_k2 a0) (l24_MerklePaths_k3 a0)) = true → needX r01_Ints_l0_next r01_Ints_l0_goes r01_Ints_l0_ps (2 : Nat) ((l24_MerklePaths_k2 a0), (l24_MerklePaths_k3 a0), (0 : Int))), ((l24_MerklePaths_k1 a0) = true → true = true), (false = true → false = true), (true = true), ((l24_MerklePaths_k1 a0) = true → true = true), (false = true → false = true), (true = true), ((l24_MerklePaths_k1 a0) = true → true = true), (false = true → false = true), (true = true)]) := by kernel_rfl
theorem l24_MerklePaths_c (a0 : ByteArray) (hp : ∀ p ∈ l24_MerklePaths_ps a0, p) : CallOk Tryd.prog 3 [valA .str a0] 0 [] 1 (l24_MerklePaths_r a0) 0 (l24_MerklePaths_o a0) := by
 have n0 := N0 hp
 have n1 := N0 (N1 hp)
 have n2 := N0 (N1 (N1 hp))
 have n3 := N0 (N1 (N1 (N1 hp)))
 have n4 : ((l24_MerklePaths_k1 a0) = true → true = true) := by intros; rfl
 have n5 : (false = true → false = true) := by first | rfl | decide +kernel
 have n6 : (true = true) := by first | rfl | decide +kernel
 exact evF_ok (envP_ok Cmk2_1_ok L0_ok) (l24_MerklePaths_ev a0) (needs_cons n0 (needs_cons n1 (needs_cons n2 (needs_cons n3 (needs_cons n4 (needs_cons n5 (needs_cons n6 (needs_cons n4 (needs_cons n5 (needs_cons n6 (needs_cons n4 (needs_cons n5 (needs_cons n6 needs_nil)))))))))))))
end Go.Proofs.YtbhonfgbmkppiaaDoor
namespace Go.Proofs.YtbhonfgbmkppiaaDoor
open Go.RowKit
theorem ints_same (l : List Int) (hl : l.length ≤ 1000000) (n : Nat) (hn : l.length ≤ n) : needX r01_Ints_l0_next r01_Ints_l0_goes r01_Ints_l0_ps n (l, l, 0) ∧ r01_Ints_0 l l = true := by
 have hk : ∀ i : Int, r01_Ints_l0_f_k0 l l i = false := fun i => by
  unfold r01_Ints_l0_f_k0
  rw [show (l.getD i.toNat (dflt TC.i64) != l.getD i.toNat (dflt TC.i64)) = false by simp, Bool.and_false]
 have main := fun (n : Nat) (hn : l.length ≤ n) => loop_inv (next := r01_Ints_l0_next) (goes := r01_Ints_l0_goes) (ps := r01_Ints_l0_ps) (fun x => x.1 = l ∧ x.2.1 = l ∧ 0 ≤ x.2.2 ∧ x.2.2 ≤ (l.length : Int)) (fun x => ((l.length : Int) - x.2.2).toNat) (fun x hx => by
  obtain ⟨a, b, i⟩ := x
  obtain ⟨h1, h2, h3⟩ := hx
  have h1 : a = l := h1
  have h2 : b = l := h2
  have h3 : 0 ≤ i ∧ i ≤ (l.length : Int) := h3
  subst h1 h2
  have g : r01_Ints_l0_f_k1 b b i = true → i < (b.length : Int) := fun h => by
   have : (!!decide (i < (b.length : Int))) = true := h
   simpa using this
  refine ⟨needs_cons (fun h => ⟨h3.1, g h⟩) (needs_cons (fun h => ⟨h3.1, g h⟩) needs_nil), fun hg => ?_⟩
  have hg' : (r01_Ints_l0_f_k1 b b i && !(r01_Ints_l0_f_k0 b b i)) = true := hg
  rw [Bool.and_eq_true] at hg'
  have := g hg'.1
  have e1 : IntKind.i64.wrap (i + 1) = i + 1 := i64_in ⟨by omega, by omega⟩
  refine ⟨⟨rfl, rfl, ?_⟩, ?_⟩
  ·show 0 ≤ IntKind.i64.wrap (i + 1) ∧ IntKind.i64.wrap (i + 1) ≤ (b.length : Int)
   rw [e1]; omega
  ·show ((b.length : Int) - IntKind.i64.wrap (i + 1)).toNat < ((b.length : Int) - i).toNat
   rw [e1]; omega) n (l, l, 0) ⟨rfl, rfl, (show (0 : Int) ≤ 0 ∧ (0 : Int) ≤ (l.length : Int) from ⟨by omega, by omega⟩)⟩ (show ((l.length : Int) - 0).toNat ≤ n by omega)
 refine ⟨(main n hn).1, ?_⟩
 unfold r01_Ints_0
 have h0 : r01_Ints_k0 l l = false := by unfold r01_Ints_k0; simp
 rw [h0, cond_false]
 have hm := (main (r01_Ints_l0_fuel (l, l, 0)) (by show l.length ≤ ((l.length : Int) - 0).toNat; omega)).2.1
 have hr : r01_Ints_k1 l l = iterX r01_Ints_l0_next r01_Ints_l0_goes (r01_Ints_l0_fuel (l, l, 0)) (l, l, 0) := rfl
 rw [← hr] at hm
 obtain ⟨m1, m2, _⟩ := hm
 rw [m1, m2, hk]
 rfl
theorem mp_true (a0 : ByteArray) : (∀ p ∈ l24_MerklePaths_ps a0, p) ∧ l24_MerklePaths_0 a0 = true := by
 have hf := firstN_lt a0.data.toList
 have e0 : (firstN a0.data.toList).tdiv 16 = firstN a0.data.toList / 16 := Int.tdiv_eq_ediv_of_nonneg hf.1
 have e1 : (firstN a0.data.toList).tmod 16 = firstN a0.data.toList % 16 := Int.tmod_eq_emod_of_nonneg hf.1
 have p0 : merkle_Path_0 a0 = firstN a0.data.toList / 16 := by
  unfold merkle_Path_0
  rw [e0]
  exact i64_in ⟨by omega, by omega⟩
 have q0 : r24_Path_0 a0 = firstN a0.data.toList / 16 := by
  have ek : r24_Path_k0 a0 = firstN a0.data.toList := rfl
  unfold r24_Path_0
  rw [ek, e0]
  have hw : IntKind.u8.wrap (firstN a0.data.toList / 16) = firstN a0.data.toList / 16 := by
   show (firstN a0.data.toList / 16) % 2 ^ 8 = _
   exact Int.emod_eq_of_lt (by omega) (by omega)
  rw [hw]
  exact i64_in ⟨by omega, by omega⟩
 have q1 : r24_Path_1 a0 = firstN a0.data.toList % 16 := by
  have ek : r24_Path_k0 a0 = firstN a0.data.toList := rfl
  unfold r24_Path_1
  rw [ek, e1]
  exact i64_in ⟨by omega, by omega⟩
 have hkk : l24_MerklePaths_k2 a0 = l24_MerklePaths_k3 a0 := by
  unfold l24_MerklePaths_k2 l24_MerklePaths_k3
  rw [p0, q0, q1, e1]
 have hs : l24_MerklePaths_k1 a0 = true → a0.data.toList.length ≤ 137438953472 := fun h => by
  have h' : (!(decide ((a0.size : Int) > 5000) && true)) = true := h
  have h2 : ¬ (a0.size : Int) > 5000 := by simpa using h'
  have h3 : a0.data.toList.length = a0.size := Array.length_toList
  omega
 have hs' : l24_MerklePaths_k0 a0 = true → a0.data.toList.length ≤ 137438953472 := fun h => by
  have h' : (l24_MerklePaths_k1 a0 && true) = true := h
  rw [Bool.and_true] at h'
  exact hs h'
 have hi := ints_same (l24_MerklePaths_k3 a0) (by show 2 ≤ _; omega) 2 (Nat.le_refl _)
 refine ⟨needs_cons hs (needs_cons hs' (needs_cons (fun h => by cases h) (needs_cons (fun _ _ _ => by rw [hkk]; exact hi.1) needs_nil))), ?_⟩
 unfold l24_MerklePaths_0
 rw [hkk, hi.2]
 cases l24_MerklePaths_k0 a0 <;> cases l24_MerklePaths_k1 a0 <;> rfl
end Go.Proofs.YtbhonfgbmkppiaaDoor
namespace Go.Proofs.YtbhonfgbmkppiaaDoor
open Go.RowKit
set_option maxRecDepth 100000
theorem op9 : Opn Tryd.prog .str 9 := opn_str Tryd.underlying9
end Go.Proofs.YtbhonfgbmkppiaaDoor
namespace Go.Proofs.YtbhonfgbmkppiaaDoor
open Go.ChangeShapes Go.WideShapes Go.ChangeAt Go.RowKit
theorem own : ownKnob Tryd.prog.godebug = none := by kernel_rfl
theorem laidOut : laidOutB Tryd.prog = true := by kernel_rfl
section
variable {P : Program} {H : Type} {enc : TypeId × Value → H} {w : World} {base : Nat} {spare : Nat → Bool} {held : Bool} {v : Value} {d : DataW H} {p : List MemPlace}
end
theorem below_trodAll {H : Type} {enc : TypeId × Value → H} {W W' : World} (hb : Below W.heap.size W W') : ∀ (ts : List TypeId) (vs : List Value) (ds : List (DataW H)) (ps : List MemPlace),
  (∀ t ∈ ts, Tryd.prog.readableRec t = true ∧ t < Tryd.prog.types.size) → DataW.TrodAll enc Tryd.prog W 0 (fun _ => true) true ts vs ds ps → (∀ x ∈ ps, x.block < W.heap.size) →
  DataW.TrodAll enc Tryd.prog W' 0 (fun b => decide (b < W.heap.size)) true ts vs ds ps
 | [], vs, ds, ps, _, h, _ => by
  obtain ⟨rfl, rfl, rfl⟩ := trodAll_nil h
  exact trodAll_mk0
 | t :: ts, vs, ds, ps, hr, h, hlt => by
  obtain ⟨v, vs', d, ds', p, q, rfl, rfl, rfl, h0, h1⟩ := trodAll_cons h
  exact trodAll_cons_mk (Below.trod laidOut (hr t (by simp)).1 (hr t (by simp)).2 h0 hb fun x hx => hlt x (by simp [hx]))
   (below_trodAll hb ts vs' ds' q (fun t' ht' => hr t' (by simp [ht'])) h1 fun x hx => hlt x (by simp [hx]))
end Go.Proofs.YtbhonfgbmkppiaaDoor
namespace Go.Proofs.YtbhonfgbmkppiaaDoor
open Go.RowKit Go.WideShapes Go.ChangeShapes
section
variable {H : Type} {en : TypeId × Value → H} {P : Program} {w : World} {base : Nat} {spare : Nat → Bool} {held : Bool} {t e : TypeId} {v : Value} {d : DataW H} {p : List MemPlace} {r : Reach} {b0 : Nat} {c : TC}
theorem arg_one (ho : Opn P c t) (ha : c.isAgg = false) (h1 : v.cells.toList = [v]) (h : DataW.Trod en P w base spare held t v d p) :
  ∃ x : U c, Wfd c x ∧ ∀ (F : Nat → Prop) (N : Nm) (nx : Nat), FB w F → Hv F N nx w (valA c x) v := by
 obtain ⟨fuel, hf⟩ := h
 rw [h1] at hf
 obtain ⟨x, h2, h3⟩ := ho en w base spare held fuel _ _ hf
 exact ⟨x, h2, fun F N nx hF => hl_one (h3 F N nx hF) ha rfl⟩
theorem arg_str (ht : P.underlying t = some .string) (ho : Opn P c t) (ha : c.isAgg = false) (hv : Value.okWide P w r b0 t v) (h : DataW.Trod en P w base spare held t v d p) :
  ∃ x : U c, Wfd c x ∧ ∀ (F : Nat → Prop) (N : Nm) (nx : Nat), FB w F → Hv F N nx w (valA c x) v := by
 obtain ⟨n, rfl⟩ := okWide_string ht hv
 exact arg_one ho ha rfl h
end
theorem call_topG {P : Program} {f : FuncId} {args : List A} {nx' : Nat} {o' : Objs} {b : Bool} (h : CallOk P f args 0 [] 1 (.v (.bool b)) nx' o') (W : World) (hgl : GlobOk (fun b => b < W.heap.size) W) (vs : List Value) (ha : ∀ (F : Nat → Prop) (N : Nm) (nx : Nat), FB W F → HL F N nx W args vs) :
  Calls P f vs.toArray W fun e W' => e = .returned (.bool b) ∧ Below W.heap.size W W' := by
 have hr : HRel (fun b => b < W.heap.size) ⟨fun _ => 0, fun _ => .nilFunc⟩ 0 [] W := ⟨fun g hg => hg, fun i ob hi => (by cases hi), fun i ob g hi => (by cases hi), fun i j x y g hi => (by cases hi), hgl⟩
 refine (h _ _ W vs hr (ha _ _ _ fun b hb => hb)).mono fun e W' ⟨y, F', N', he, _, _, hy, hb⟩ => ?_
 rw [hy.v_inv] at he
 exact ⟨he, hb (Nat.le_refl _)⟩
end Go.Proofs.YtbhonfgbmkppiaaDoor
namespace Go.Proofs.YtbhonfgbmkppiaaDoor
open Go.RowKit Go.ChangeShapes Go.WideShapes Go.ChangeAt
theorem laid_ints {P : Program} {t e : TypeId} {n : Nat} {H : Type} {en : TypeId × Value → H} {W : World} {base : Nat} {spare : Nat → Bool} {held : Bool} {fuel : Nat} {k : IntKind} (hu : P.underlying t = some (.array n e)) (he : P.underlying e = some (.int k)) (hc : P.cellsOf e = 1) (ht : P.cellsOf t = n) {cs : List Value} {l : List Int} {p : List MemPlace}
  (h : DataW.trod en P W base spare held fuel t cs = some (.agg (l.map fun x => .lit (.int k x)), p)) : cs = l.map (fun x => Value.int k x) := by
 obtain ⟨xs, m, _, hx, hl, hn, hg⟩ := DataW.trod_array hu h
 rw [ht] at hl
 rw [hc] at hg
 have e1 : xs.map (·.1) = l.map fun x => DataW.lit (.int k x) := by
  have := congrArg Prod.fst hx
  simpa using this.symm
 have hln : l.length = n := by
  have := congrArg List.length e1
  simpa [hn] using this.symm
 refine List.ext_getElem? fun i => ?_
 by_cases hi : i < n
 ·have h1 := hg i hi
  have hxi : xs[i]? = some xs[i] := List.getElem?_eq_getElem (by omega)
  rw [hxi] at h1
  obtain ⟨m', e2, e3, _⟩ := DataW.trod_int he h1
  have e4 := congrArg (·[i]?) e1
  simp only [List.getElem?_map, hxi, Option.map_some] at e4
  have hli : l[i]? = some l[i] := List.getElem?_eq_getElem (by omega)
  rw [hli, Option.map_some, e3] at e4
  have e5 : m' = l[i] := by simpa using e4
  rw [List.getElem?_map, hli, Option.map_some, ← e5]
  have e6 : ((cs.drop (i * 1)).take 1)[0]? = some (Value.int k m') := by rw [e2]; rfl
  rw [List.getElem?_take_of_lt (by omega), List.getElem?_drop] at e6
  simpa using e6
 ·rw [List.getElem?_eq_none (by omega), List.getElem?_eq_none (by rw [List.length_map]; omega)]
abbrev laidL : List (String × DataW Unit) := [("gemel/sha.rounds", Rows.laid_gemel_sha_rounds)]
theorem door_met (os : Os) (args : Array Value) : laidMetH Tryd.prog laidL ((World.doorLaid Tryd.prog 400 os).forCall (fun _ _ => 0) ⟨#[], args, []⟩).memory :=
 laidMetH_of_parts3 (fuel := 8) (laidMet_of_run' 8 (by kernel_rfl) (by kernel_rfl)) (by kernel_rfl) (by kernel_rfl)
theorem gName : Tryd.prog.globalNamed "gemel/sha.rounds" = some 1 := by kernel_rfl
theorem gType : (Tryd.prog.globals[1]?).map (·.type) = some 226 := by kernel_rfl
def roundsL : List Int := match globs with
 | [(_, ⟨.u32, _, l⟩)] => l
 | _ => []
theorem laid_is : (Rows.laid_gemel_sha_rounds : DataW Unit) = .agg (roundsL.map fun x => .lit (.int .u32 x)) := by kernel_rfl
theorem globs_is : globs = [(1, ⟨.u32, rfl, roundsL⟩)] := by kernel_rfl
theorem glob_ok {W : World} (h : laidMetH Tryd.prog laidL W) : GlobOk (fun b => b < W.heap.size) W := by
 rw [MakeChecks.laidMetH_plain _ _ _ (by kernel_rfl)] at h
 obtain ⟨ps, ⟨g0, t0, cs0, f0, p0, q0, hg0, ht0, hv0, hd0, _, hps⟩, _, hcell⟩ := h
 obtain rfl := Option.some.inj (gName.symm.trans hg0)
 obtain rfl := Option.some.inj (gType.symm.trans ht0)
 rw [laid_is] at hd0
 have hcs := laid_ints (l := roundsL) Tryd.underlying226 Tryd.underlying44 (by kernel_rfl) (by kernel_rfl) hd0
 have hlen : cs0.toList.length = 64 := by rw [hcs, List.length_map]; kernel_rfl
 have hsz : cs0.size = 64 := by rw [← Array.length_toList]; exact hlen
 have hm : MemPlace.cell 1 0 ∈ ps := by
  rw [hps]
  refine List.mem_append.2 (.inl (List.mem_append.2 (.inl ?_)))
  unfold MemPlace.row
  rw [hsz]
  exact List.mem_map.2 ⟨0, List.mem_range.2 (by decide), rfl⟩
 obtain ⟨⟨c, t, hc⟩, _⟩ := hcell 1 0 hm
 have hcc : c = cs0 := by
  unfold World.var? at hv0
  rw [gName] at hv0
  simp only [Option.bind_some, hc] at hv0
  exact Option.some.inj hv0
 subst hcc
 intro x hx
 rw [globs_is] at hx
 obtain rfl := List.mem_singleton.1 hx
 refine ⟨blk_lt hc, t, ?_⟩
 show W.heap[1]? = some (.cells (roundsL.map (sv .u32)).toArray t (0, 0))
 rw [hc]
 congr 2
 apply Array.ext'
 rw [hcs]
 rfl
end Go.Proofs.YtbhonfgbmkppiaaDoor
namespace Go.Proofs.YtbhonfgbmkppiaaDoor.merklePaths
open Go.ChangeShapes Go.WideShapes Go.ChangeAt Go.RowKit
theorem lifted (os : Os) (started : os.Started) (H : Type) (enc : TypeId × Value → H) :
  ReturnsInHanded {} Tryd.checked os 3 .any (fun w args => (Rows.merklePathsSpec.pre enc Tryd.prog Tryd.f3 [] false w args ∧ laidMetH Tryd.prog laidL w) ∧ sizedMet enc Tryd.prog Tryd.f3 (OpenSpec.ofChange Rows.merklePathsSpec) false w args)
   (Rows.merklePathsSpec.post enc Tryd.prog Tryd.f3 false true false false) := by
 refine returnsInHanded_of_change_and (C := Tryd.checked) (X := fun w _ => laidMetH Tryd.prog laidL w) (fun _ _ _ hh h => h.of_heap hh) own started (by kernel_rfl) Tryd.func3
  (ChangeSpec.witness_shaped (enc := enc) (C := Tryd.checked) (os := os) (X := fun w _ => laidMetH Tryd.prog laidL w) false (World.doorLaid Tryd.prog 400 os) #[.string ⟨#[]⟩] 8 rfl (World.shaped_of_RefB (by kernel_rfl) (by kernel_rfl)) (by kernel_rfl) (by kernel_rfl) (by kernel_rfl) (door_met os _)) ?_
 intro W base args ds gs before hval0 hW _ _ hL _
 have hval : ∀ (j : Nat) t v, Tryd.f3.params[j]? = some t → args[j]? = some v → Value.okWide Tryd.prog W .any base t v := hval0
 have hW' := hW
 have hlt : ∀ x ∈ before, x.block < W.heap.size := fun x hx => hW.lt x hx
 obtain ⟨p, q, hA0, hV, rfl, hfz, hnd⟩ := hW
 have hA : DataW.TrodAll enc Tryd.prog W 0 (fun _ => true) true Tryd.f3.params.toList args.toList ds p := hA0
 rw [Tryd.params3] at hA hval
 have hA' := hA
 obtain ⟨v0, vs0, d0, ds0, p0, q0, hargs, rfl, rfl, h0, r0⟩ := trodAll_cons hA
 obtain ⟨rfl, rfl, rfl⟩ := trodAll_nil r0
 obtain rfl : args = #[v0] := by cases args; simp_all
 obtain ⟨rfl, rfl⟩ := trodVars_none hV
 obtain ⟨a0, w0, g0⟩ := arg_str Tryd.underlying9 op9 rfl (hval 0 9 v0 rfl rfl) h0
 obtain ⟨hn, ht⟩ := mp_true a0
 have hc := l24_MerklePaths_c a0 hn
 have hr : l24_MerklePaths_r a0 = .v (.bool true) := by show A.v (.bool (l24_MerklePaths_0 a0)) = _; rw [ht]
 rw [hr] at hc
 refine (call_topG hc W (glob_ok hL) [v0] fun F N nx hF => HL.cons (g0 F N nx hF) (HL.nil)).mono fun e W' ⟨he, bel⟩ => ?_
 subst he
 have hread : ∀ t ∈ [9], Tryd.prog.readableRec t = true ∧ t < Tryd.prog.types.size := by
  intro t ht
  simp only [List.mem_cons, List.not_mem_nil, or_false] at ht
  subst ht
  all_goals exact ⟨by kernel_rfl, of_decide_eq_true (by kernel_rfl)⟩
 exact ⟨_, rfl, _, _, _, [], _, [], hW', trodAll_mk1 (shut_bool Tryd.underlying4 _),
  below_trodAll bel _ _ _ _ hread hA' (fun x hx => hlt x (by simpa using hx)), rfl, bel.frame _, fun h => by cases h⟩
theorem tA : Tryd.prog.funcNamed Rows.merklePathsRow.func = some 3 := by kernel_rfl
theorem b0 : (Rows.merklePathsRow.wf (OpenSpec.ofChange Rows.merklePathsSpec)) = true := by kernel_rfl
theorem b1 : (laidOutB Tryd.prog) = true := by kernel_rfl
theorem b2 : (mapsRowed Tryd.prog) = true := by kernel_rfl
theorem b3 : (Tryd.f3.params.all (Tryd.prog.readableRec ·)) = true := by kernel_rfl
theorem b4 : (namedTie Tryd.prog Rows.merklePathsRow.named Rows.merklePathsSpec.vars) = true := by kernel_rfl
theorem b5 : ((Rows.merklePathsRow.stops == [])) = true := by kernel_rfl
theorem b6 : ((Tryd.prog.stops == [])) = true := by kernel_rfl
theorem b7 : ((Rows.merklePathsRow.knobs == [])) = true := by kernel_rfl
theorem b8 : ((Tryd.prog.stopKnobs == [])) = true := by kernel_rfl
theorem b9 : ((Rows.merklePathsRow.inPlace == Tryd.prog.inPlace 3)) = true := by kernel_rfl
theorem b10 : ((Rows.merklePathsRow.unfollowed == Tryd.prog.unfollowed 3)) = true := by kernel_rfl
theorem b11 : ((Rows.merklePathsRow.recurses == Tryd.prog.recurses 3)) = true := by kernel_rfl
theorem b12 : ((Rows.merklePathsRow.named == Tryd.prog.varsNamed 3)) = true := by kernel_rfl
theorem b13 : ((Rows.merklePathsRow.maps == (Tryd.f3.params.toList ++ Rows.merklePathsSpec.plain.varTypes Tryd.prog).any (Tryd.prog.mapsRec ·))) = true := by kernel_rfl
theorem b14 : ((Rows.merklePathsRow.ifaces == (Tryd.f3.params.toList ++ Rows.merklePathsSpec.plain.varTypes Tryd.prog).any (Tryd.prog.ifacesRec ·))) = true := by kernel_rfl
theorem b15 : ((Rows.merklePathsRow.mapsOut == Tryd.prog.mapsAmong Tryd.f3.resultTypes.toList)) = true := by kernel_rfl
theorem b16 : ((Rows.merklePathsRow.loops == (Tryd.f3.params.toList ++ Rows.merklePathsSpec.plain.varTypes Tryd.prog).any (Tryd.prog.loopsFrom ·))) = true := by kernel_rfl
theorem b17 : ((Rows.merklePathsRow.wideKeys == (Tryd.f3.params.toList ++ Rows.merklePathsSpec.plain.varTypes Tryd.prog ++ Tryd.f3.resultTypes.toList).any (Tryd.prog.wideKeysFrom ·))) = true := by kernel_rfl
theorem b18 : (Rows.merklePathsSpec.vars.all (Tryd.prog.varReadable ·)) = true := by kernel_rfl
theorem b19 : (Tryd.f3.resultTypes.all (fun t => Tryd.prog.readableRec t && decide (t < Tryd.prog.types.size))) = true := by kernel_rfl
theorem b20 : ((Rows.merklePathsRow.ifacesOut == Tryd.f3.resultTypes.toList.any (Tryd.prog.ifacesRec ·))) = true := by kernel_rfl
theorem b21 : ((Rows.merklePathsRow.loopsOut == Tryd.f3.resultTypes.toList.any (Tryd.prog.loopsFrom ·))) = true := by kernel_rfl
theorem b22 : ((Rows.merklePathsRow.plainKeys == Tryd.prog.plainKeys)) = true := by kernel_rfl
theorem b23 : (Rows.merklePathsRow.shortTexts.isNone) = true := by kernel_rfl
theorem b24 : (Tryd.prog.stopsHeard) = true := by kernel_rfl
theorem b25 : (Tryd.prog.mayEnter) = true := by kernel_rfl
theorem b26 : ((Rows.merklePathsRow.lifted == Tryd.prog.liftsFinal)) = true := by kernel_rfl
theorem b27 : ((Tryd.prog.make == some Rows.merklePathsRow.make)) = true := by kernel_rfl
theorem b28 : ((Rows.merklePathsRow.kinds == (if Rows.merklePathsRow.domain.isEmpty then [] else Tryd.f3.params.toList.map fun t => match Tryd.prog.underlying t with | some (.int k) => some k | _ => none))) = true := by kernel_rfl
theorem b29 : ((Rows.merklePathsRow.pinned == Rows.merklePathsRow.pinnedBy)) = true := by kernel_rfl
theorem b30 : ((Rows.merklePathsRow.veiled == (Tryd.f3.params.toList ++ Rows.merklePathsSpec.plain.varTypes Tryd.prog ++ Tryd.f3.resultTypes.toList).any (Tryd.prog.veiledRec ·))) = true := by kernel_rfl
theorem b31 : (Rows.merklePathsRow.veiledFits Tryd.prog Tryd.f3.params.toList (Tryd.f3.params.toList ++ Rows.merklePathsSpec.plain.varTypes Tryd.prog ++ Tryd.f3.resultTypes.toList)) = true := by kernel_rfl
theorem andI {a b : Bool} (h : a = true) (g : b = true) : (a && b) = true := by rw [h, g]; rfl
theorem tB : joinedFacts Tryd.prog 3 Tryd.f3 Rows.merklePathsSpec Rows.merklePathsRow = true := by
 unfold joinedFacts
 exact (andI (andI (andI (andI (andI (andI (andI (andI (andI (andI (andI (andI (andI (andI (andI (andI (andI (andI (andI (andI (andI (andI (andI (andI (andI (andI (andI (andI (andI (andI (andI b0 b1) b2) b3) b4) b5) b6) b7) b8) b9) b10) b11) b12) b13) b14) b15) b16) b17) b18) b19) b20) b21) b22) b23) b24) b25) b26) b27) b28) b29) b30) b31)
theorem tC : Tryd.f3.isInstance Tryd.prog Rows.merklePathsRow.origin Rows.merklePathsRow.targs := of_decide_eq_true (by kernel_rfl)
theorem tD0 : decide (Check.packageOf Tryd.f3.name = "main") = false := by kernel_rfl
theorem tD : Tryd.f3.isWrapper Tryd.prog Rows.merklePathsRow.wrapper Rows.merklePathsRow.mainSum := by
 unfold Func.isWrapper
 rw [if_neg (of_decide_eq_false tD0)]
 exact ⟨rfl, rfl⟩
theorem over : Rows.merklePathsRow.holds Tryd.pinned (OpenSpec.ofChange Rows.merklePathsSpec) :=
 OpenClaim.holds_of_wide 3 Tryd.f3 rfl rfl rfl rfl rfl rfl rfl ⟨rfl, rfl, rfl, rfl, rfl⟩ rfl rfl rfl rfl rfl tA Tryd.func3 tB tC tD
  (fun os started H enc _ => lifted os started H enc)
theorem proved : Rows.MerklePathsCardSaid :=
 Claim7.holds_tied_plain_at .later [] [.data] true (true, "151aec75842b894e24bb842f406e569667afacfae4aeadc36fe74b46fdae8ba7") false
  over (fun _ h => by cases h) (by kernel_rfl) (fun _ h => by cases h) merklePaths_row_tie rfl ⟨rfl, rfl⟩ (by kernel_rfl) rfl
  (fun f fn hf hfn => by
   obtain rfl : f = 3 := Option.some.inj ((show Tryd.prog.funcNamed "gemel/gemellaw24.MerklePaths" = some 3 by kernel_rfl).symm.trans hf) |>.symm
   obtain rfl : fn = Tryd.f3 := (Option.some.inj (Tryd.func3.symm.trans hfn)).symm
   exact ⟨by kernel_rfl, fun j t ht => by
    rw [Tryd.params3] at ht
    have hm : t ∈ [9] := by simpa using Array.mem_of_getElem? ht
    have hall : ([9].all fun u => !Tryd.prog.wantsStandIn u) = true := by kernel_rfl
    exact (show Tryd.prog.wantsStandIn t = false by simpa using List.all_eq_true.1 hall t hm)⟩)
  (by kernel_rfl)
end Go.Proofs.YtbhonfgbmkppiaaDoor.merklePaths
