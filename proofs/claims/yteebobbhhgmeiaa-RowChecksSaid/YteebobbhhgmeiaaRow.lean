/- From a walk to a law's row: arguments opened, read again behind the call. -/
import Derived.Test.YteebobbhhgmeiaaRows
import Derived.WalkKit
import Derived.ProofKit
import Derived.OpenShut
import Derived.ShutString
import Derived.ChangeOld
import Derived.Below
namespace Go.Proofs.Yteebobbhhgmeiaa
open Go.ChangeShapes Go.WideShapes Go.ChangeAt Go.RowKit

theorem own : ownKnob Try.prog.godebug = none := by kernel_rfl
theorem laidOut : laidOutB Try.prog = true := by kernel_rfl
theorem cells3 : Try.prog.cellsOf 3 = 1 := by kernel_rfl

section
variable {P : Program} {H : Type} {enc : TypeId × Value → H} {w : World} {base : Nat} {spare : Nat → Bool} {held : Bool} {v : Value} {d : DataW H} {p : List MemPlace}

theorem agg_of_struct {r : Reach} {b0 : Nat} {t : TypeId} {fs : Array Field} (hu : P.underlying t = some (.struct fs)) (h : Value.okWide P w r b0 t v) : ∃ cs, v = .agg cs ∧ cs.size = P.cellsOf t := by
  unfold Value.okWide at h
  rw [hu] at h
  obtain ⟨cs, h1, h2, _⟩ := h
  exact ⟨cs, h1, h2⟩
theorem agg_of_array {r : Reach} {b0 : Nat} {t e : TypeId} {n : Nat} (hu : P.underlying t = some (.array n e)) (h : Value.okWide P w r b0 t v) : ∃ cs, v = .agg cs ∧ cs.size = P.cellsOf t := by
  unfold Value.okWide at h
  rw [hu] at h
  obtain ⟨cs, h1, h2, _⟩ := h
  exact ⟨cs, h1, h2⟩

theorem one_int {t : TypeId} {m : Nat} {c : Value} {x : Option (DataW H × List MemPlace)} (hi : P.underlying t = some (.int .i64)) (hx : x.isSome = true) (h : DataW.trod enc P w base spare held m t [c] = x) :
    ∃ n, c = .int .i64 n ∧ (Lit.int .i64 n).wf = true := by
  cases x with
  | none => cases hx
  | some y =>
    obtain ⟨n, h1, _, h3⟩ := DataW.trod_int hi h
    exact ⟨n, by simpa using h1, h3⟩

theorem open_arr2 {r : Reach} {b0 : Nat} {t e : TypeId} (hu : P.underlying t = some (.array 2 e)) (hi : P.underlying e = some (.int .i64)) (hC : P.cellsOf t = 2) (hC3 : P.cellsOf e = 1) (hv : Value.okWide P w r b0 t v) (h : DataW.Trod enc P w base spare held t v d p) :
    ∃ a b : Int, v = .agg #[.int .i64 a, .int .i64 b] ∧ (Lit.int .i64 a).wf = true ∧ (Lit.int .i64 b).wf = true := by
  obtain ⟨cs, rfl, hsz⟩ := agg_of_array hu hv
  obtain ⟨l⟩ := cs
  match l, hsz.trans hC with
  | [c0, c1], _ =>
    obtain ⟨fuel, hf⟩ := h
    obtain ⟨xs, m, _, _, _, hxl, hg⟩ := DataW.trod_array hu hf
    have g0 := hg 0 (by omega)
    have g1 := hg 1 (by omega)
    simp only [hC3, Value.cells] at g0 g1
    obtain ⟨a, rfl, wa⟩ := one_int hi (by simp [hxl]) g0
    obtain ⟨b, rfl, wb⟩ := one_int hi (by simp [hxl]) g1
    exact ⟨a, b, rfl, wa, wb⟩

/-- A struct whose fields are all int. -/
theorem open_ints_struct {r : Reach} {b0 : Nat} {t e : TypeId} {fs : Array Field} (hu : P.underlying t = some (.struct fs)) (hi : P.underlying e = some (.int .i64)) (hC : P.cellsOf t = fs.size) (hC3 : P.cellsOf e = 1)
    (hfs : ∀ (i : Nat) (f : Field), fs[i]? = some f → f.type = e ∧ f.offset = i) (hv : Value.okWide P w r b0 t v) (h : DataW.Trod enc P w base spare held t v d p) :
    ∃ cs : Array Value, v = .agg cs ∧ cs.size = fs.size ∧ ∀ (i : Nat) (c : Value), cs[i]? = some c → ∃ n, c = Value.int .i64 n ∧ (Lit.int .i64 n).wf = true := by
  obtain ⟨cs, rfl, hsz⟩ := agg_of_struct hu hv
  refine ⟨cs, rfl, hsz.trans hC, fun i c hc => ?_⟩
  obtain ⟨fuel, hf⟩ := h
  obtain ⟨xs, m, _, _, _, hxl, hg⟩ := DataW.trod_struct hu hf
  have hilt : i < cs.size := (Array.getElem?_eq_some_iff.1 hc).1
  obtain ⟨f, hfi⟩ : ∃ f, fs[i]? = some f := ⟨_, Array.getElem?_eq_getElem (by omega)⟩
  obtain ⟨h1, h2⟩ := hfs i f hfi
  have g := hg i f hfi
  rw [h1, h2, hC3] at g
  have hd : ((Value.agg cs).cells.toList.drop i).take 1 = [c] := by
    have hc' : cs.toList[i]? = some c := by rw [Array.getElem?_toList]; exact hc
    have hlt : i < cs.toList.length := by simpa using hilt
    show (cs.toList.drop i).take 1 = [c]
    rw [List.drop_eq_getElem_cons hlt]
    rw [List.getElem?_eq_getElem hlt] at hc'
    simp [Option.some.inj hc']
  rw [hd] at g
  exact one_int hi (by rw [List.getElem?_eq_getElem (by omega)]; rfl) g
end

/-- All arguments read behind the call as they read before it. -/
theorem below_trodAll {H : Type} {enc : TypeId × Value → H} {W W' : World} (hb : Below W.heap.size W W') : ∀ (ts : List TypeId) (vs : List Value) (ds : List (DataW H)) (ps : List MemPlace),
    (∀ t ∈ ts, Try.prog.readableRec t = true ∧ t < Try.prog.types.size) → DataW.TrodAll enc Try.prog W 0 (fun _ => true) true ts vs ds ps → (∀ x ∈ ps, x.block < W.heap.size) →
    DataW.TrodAll enc Try.prog W' 0 (fun b => decide (b < W.heap.size)) true ts vs ds ps
  | [], vs, ds, ps, _, h, _ => by
    obtain ⟨rfl, rfl, rfl⟩ := trodAll_nil h
    exact trodAll_mk0
  | t :: ts, vs, ds, ps, hr, h, hlt => by
    obtain ⟨v, vs', d, ds', p, q, rfl, rfl, rfl, h0, h1⟩ := trodAll_cons h
    exact trodAll_cons_mk (Below.trod laidOut (hr t (by simp)).1 (hr t (by simp)).2 h0 hb fun x hx => hlt x (by simp [hx]))
      (below_trodAll hb ts vs' ds' q (fun t' ht' => hr t' (by simp [ht'])) h1 fun x hx => hlt x (by simp [hx]))

section
variable {H : Type} {enc : TypeId × Value → H} {w : World} {base : Nat} {spare : Nat → Bool} {held : Bool} {v : Value} {d : DataW H} {p : List MemPlace}
set_option maxRecDepth 100000 in
theorem open_front {r : Reach} {b0 : Nat} (hv : Value.okWide Try.prog w r b0 25 v) (h : DataW.Trod enc Try.prog w base spare held 25 v d p) :
    ∃ a b c e f : Int, v = .agg #[.int .i64 a, .int .i64 b, .int .i64 c, .int .i64 e, .int .i64 f] := by
  obtain ⟨cs, rfl, hz, hc⟩ := open_ints_struct Try.underlying25 Try.underlying3 (by kernel_rfl) (by kernel_rfl) (by
    intro i f hf
    match i, hf with
    | 0, hf => obtain rfl := Option.some.inj hf; exact ⟨rfl, rfl⟩
    | 1, hf => obtain rfl := Option.some.inj hf; exact ⟨rfl, rfl⟩
    | 2, hf => obtain rfl := Option.some.inj hf; exact ⟨rfl, rfl⟩
    | 3, hf => obtain rfl := Option.some.inj hf; exact ⟨rfl, rfl⟩
    | 4, hf => obtain rfl := Option.some.inj hf; exact ⟨rfl, rfl⟩
    | n + 5, hf => simp at hf) hv h
  obtain ⟨l⟩ := cs
  match l, hz with
  | [c0, c1, c2, c3, c4], _ =>
    obtain ⟨a, rfl, _⟩ := hc 0 c0 rfl
    obtain ⟨b, rfl, _⟩ := hc 1 c1 rfl
    obtain ⟨c, rfl, _⟩ := hc 2 c2 rfl
    obtain ⟨e, rfl, _⟩ := hc 3 c3 rfl
    obtain ⟨f, rfl, _⟩ := hc 4 c4 rfl
    exact ⟨a, b, c, e, f, rfl⟩
end
end Go.Proofs.Yteebobbhhgmeiaa
